/- An abstract machine, part L: calls as operations. An abstract machine, part M: plain operations at a stroke; interfaces, closures; calls that are handed all objects; slices and maps made anew. An abstract machine, part N: rows and maps made anew, appends that make a new object of what comes out. An abstract machine, part O: slices built and made, slices of no capacity, maps, bytes and strings. An abstract machine, part P: maps with plain keys. An abstract machine, part Q: bytes to strings, strings compared. An abstract machine, part X: arrays, type assertions. An abstract machine, part Fe: objects become memory that is never written again. An abstract machine, part Bd: what strings.Builder asks for: pointers to unsafe.Pointer and back, a pointer held against itself, unsafe.SliceData, unsafe.String, abi.NoEscape. An abstract machine: which boxes and slice literals are never written again: those of law11. An abstract machine, part R: a program that runs the operations by itself, and that it is right. An abstract machine, part S: the program that runs code and functions. Slots and objects lie in trees; what is hot is written by recursors, for the kernel runs it. An abstract machine, part T: what the program runs is so: one operation. -/
import Derived.Laws.BytesString
import Derived.Laws.MakeOwn
import Derived.MapKept
import Derived.DeepKeys3
import Derived.Laws.Cover4
import Derived.Laws.IdiomStrings
import Derived.Lib.Builder
import Derived.Lib.UnsafeStr
import Derived.Laws.Externs
import Derived.KernelRfl
import GoSem.Claim
import Derived.Test.YtfkjfjalecikkaaGreatDoorDA
set_option linter.defProp false
open Go.IntKind (wrap)
noncomputable section
open List (length map range replicate)
namespace Go.Am
def aQ(P:Program)(f:FuncId)(args:lXF)(ob:lXE)(kk:lXC)(r:AV)(ob':lXE):Prop:=kL P f args ob kk λe o=>e= .ret r/\o=ob'
def kL.mono{P:Program}{f:FuncId}{args:lXF}{ob:lXE}{kk:lXC}{R R':qp->lXE->Prop}(h:kL P f args ob kk R)(hr: ∀e o,R e o->R' e o):kL P f args ob kk R':=⟨h.1,λm γ w vs hi hv=>(h.2 m γ w vs hi hv).mono oay⟩
def JR(ob:lXE)(f:Nat->Nat):lXC->lXE->Prop
 |[],[]=>True
 |s::sel,X::obc=>(ob[s]? =some (X.ren f)/\X≠ .dead)/\JR ob f sel obc
 |_,_=>False
def sB{ob:lXE}{f:Nat->Nat}: ∀{sel:lXC}{obc:lXE},JR ob f sel obc->sel.length=obc.length/\ ∀(i s:Nat)(X:Ob),sel[i]? =some s->obc[i]? =some X->ob[s]? =some (X.ren f)/\X≠ .dead
 |[],[],_=>⟨rfl,λi s X h=>by simp at h⟩
 |s::sel,X::obc,h=>by
  obtain⟨k1,k2⟩:=sB h.2;refine⟨by simp[k1],λi t Y ht hY=> ?_⟩;cases i with
  |zero=>simp at ht hY;subst ht;subst hY;exact h.1
  |succ i=>grind
 |[],X::obc,h=>h.elim
 |s::sel,[],h=>h.elim
section
variable{P:Program}{n:Nat}{ops:Array Oper}{l:List Oper}{L:Loc}{ob:lXE}{kf:List Rec->Loc->lXE->Prop}{gu:Loc}
variable{dst:Option Nat}{ty:TypeId}{pos:String}{after:Array Edge}{guard:Option (Nat×Bool)}
theorem qz{f:FuncId}{fn:Func}(hf:P.funcs[f]? =some fn)(hname:(fn.name== "runtime.NumGoroutine")=false)(hb:fn.body.isNone=false){x:Operand}{args:List Operand}{ts:Array TypeId}{a:Act}{first cap:List Value}(hx:a.eval x= .func (.func f) first.toArray cap.toArray)(w:World):(execOp a.eval ⟨dst,.call ⟨.value x,args.toArray,ts⟩,ty,pos,after,guard⟩).run P w= .ok (.enter f (first++args.map a.eval++cap).toArray) w:=by
 have h1: ¬fn.name= "runtime.NumGoroutine" :=by simpa using hname
 have h2: ¬fn.body=none:=by intro e;simp[e]at hb
 simp[execOp,resolve,hx,Deferred.ofValue,invoke,callFunc,hf,h1,h2]
theorem ZN{f:FuncId}{R:qp->lXE->Prop}{kk sel:lXC}{argsC:lXF}{obc:lXE}(hc:kL P f argsC obc kk R){m:Mem}{γ:Gam}{w:World}{a:Act}{K:Act->World->Prop}{Q:Exit->Act->World->Prop}(hi:Inv m γ ob w)(hn:sel.Nodup)(hsel:JR ob (bU sel ob.length) sel obc)(hkk: ∀k∈kk,k<sel.length){x:Operand}{args:List Operand}{ts:Array TypeId}{first cap:List Value}(hx:a.eval x= .func (.func f) first.toArray cap.toArray)(hv:au m γ (bV (bU sel ob.length) argsC) (first++args.map a.eval++cap))(hR: ∀e o,R e o-> ∃r,e= .ret r/\sel.length<=o.length)(hK: ∀m' γ' w' v r obc',R (.ret r) obc' ->Trans m γ w m' γ' w' ->Le m γ (kk.map<|bU sel ob.length) m' γ' ->Inv m' γ' (back ob sel kk obc') w' ->Rep m' γ' (r.ren<|bU sel ob.length) v->K (a.put dst v) w'):Oper.wp P ⟨dst,.call ⟨.value x,args.toArray,ts⟩,ty,pos,after,guard⟩ a w K Q:=by
 obtain⟨⟨fn,hf,hname,hb⟩,hc⟩:=hc;obtain⟨hl,hget⟩:=sB hsel;unfold Oper.wp;rw[qz hf hname hb hx,Oper.upon_enter];refine(hc m _ w _ (od hi hn hl hget)<|(cv _ _).2 hv).mono ?_;intro e w' ⟨m',γc,r,obc',h1,h2,h3,h4,h5⟩;obtain⟨r',rfl,hlen⟩:=hR _ _ h1;cases e with
 |returned v=>obtain⟨γ',g1,g2,g3,g4⟩:=lg hi hn hl hget hlen hkk h3 h4 h5;refine hK m' γ' w' v r' obc' h1 g2 g3 g4 ((dk r' v).1 ?_);rw[show(λk=>γ'<|bU sel ob.length k)=γc from funext g1];exact h2
 |panicked chain=>exact h2.elim
 |outgrown=>exact h2.elim
theorem EM:back ob [] [] []=ob:=by simp[back,gv,dW]
end
mutual
def AV.und (N:Nat):AV->Bool
 | .any=>true
 | .v _=>true
 | .sl _ rows=>cM N rows
 | .ag cs=>bN N cs
 | .tu cs=>bN N cs
 | .pt o _=>Nat.blt o N
 | .pf cs=>bN N cs
 | .sr o _ _ _=>Nat.blt o N
 | .fn _ fs cs=>bN N fs&&bN N cs
 | .ifc _ y=>y.und N
 | .mp o=>Nat.blt o N
 | .yl o=>Nat.blt o N
 | .cl _ rows=>cM N rows
def bN (N:Nat):lXF->Bool
 |[]=>true
 |c::cs=>c.und N&&bN N cs
def cM (N:Nat):List lXF->Bool
 |[]=>true
 |r::rs=>bN N r&&cM N rs
end
theorem qA{o N:Nat}{ks:lXC}(h:Nat.blt o N=true)(hk: ∀k∈ks,N<=k):(!ks.contains o)=true:=by
 simp only[afP];cases hc:ks.contains o with
 |false=>rfl
 |true=>simp only[List.contains_iff_mem]at hc;have:=hk o hc;simp[Nat.blt]at h;omega
section
variable{N:Nat}{ks:lXC}
mutual
theorem wC (hk: ∀k∈ks,N<=k): ∀av:AV,av.und N=true->av.free ks=true
 | .any,_=>by simp[AV.free]
 | .v _,_=>by simp[AV.free]
 | .sl _ rows,h=>by simp only[AV.und]at h;simp[AV.free,jz hk rows h]
 | .ag cs,h=>by simp only[AV.und]at h;simp[AV.free,dH hk cs h]
 | .tu cs,h=>by simp only[AV.und]at h;simp[AV.free,dH hk cs h]
 | .pt o _,h=>by grind[AV.und,AV.free,qA]
 | .pf cs,h=>by simp only[AV.und]at h;simp[AV.free,dH hk cs h]
 | .sr o _ _ _,h=>by grind[AV.und,AV.free,qA]
 | .fn _ fs cs,h=>by simp only[AV.und,afv]at h;simp[AV.free,dH hk fs h.1,dH hk cs h.2]
 | .ifc _ y,h=>by simp only[AV.und]at h;simp[AV.free,wC hk y h]
 | .mp o,h=>by grind[AV.und,AV.free,qA]
 | .yl o,h=>by grind[AV.und,AV.free,qA]
 | .cl _ rows,h=>by simp only[AV.und]at h;simp[AV.free,jz hk rows h]
theorem dH (hk: ∀k∈ks,N<=k): ∀cs:lXF,bN N cs=true->cJ ks cs=true
 |[],_=>by simp[cJ]
 |c::cs,h=>by simp only[bN,afv]at h;simp[cJ,wC hk c h.1,dH hk cs h.2]
theorem jz (hk: ∀k∈ks,N<=k): ∀rows:List lXF,cM N rows=true->eZ ks rows=true
 |[],_=>by simp[eZ]
 |r::rs,h=>by simp only[cM,afv]at h;simp[eZ,dH hk r h.1,jz hk rs h.2]
end
end
mutual
theorem aR (N:Nat): ∀av:AV,av.pure=true->av.und N=true
 | .any,_=>by simp[AV.und]
 | .v _,_=>by simp[AV.und]
 | .sl _ rows,h=>by simp only[AV.pure]at h;simp[AV.und,bO N rows h]
 | .ag cs,h=>by simp only[AV.pure]at h;simp[AV.und,bA N cs h]
 | .tu cs,h=>by simp only[AV.pure]at h;simp[AV.und,bA N cs h]
 | .pt _ _,h=>by simp[AV.pure]at h
 | .pf cs,h=>by simp only[AV.pure]at h;simp[AV.und,bA N cs h]
 | .sr _ _ _ _,h=>by simp[AV.pure]at h
 | .fn _ fs cs,h=>by simp only[AV.pure,afv]at h;simp[AV.und,bA N fs h.1,bA N cs h.2]
 | .ifc _ y,h=>by simp only[AV.pure]at h;simp[AV.und,aR N y h]
 | .mp _,h=>by simp[AV.pure]at h
 | .yl _,h=>by simp[AV.pure]at h
 | .cl _ rows,h=>by simp only[AV.pure]at h;simp[AV.und,bO N rows h]
theorem bA (N:Nat): ∀cs:lXF,aq cs=true->bN N cs=true
 |[],_=>by simp[bN]
 |c::cs,h=>by simp only[aq,afv]at h;simp[bN,aR N c h.1,bA N cs h.2]
theorem bO (N:Nat): ∀rows:List lXF,aM rows=true->cM N rows=true
 |[],_=>by simp[cM]
 |r::rs,h=>by simp only[aM,afv]at h;simp[cM,bA N r h.1,bO N rs h.2]
end
def Ob.und(N:Nat):Ob->Bool
 | .dead=>true
 | .box _ cs=>bN N cs
 | .row _ _ rows=>cM N rows
 | .mp _ vals=>bN N vals
 | .lp _ _ _ cs=>bN N cs
def nh{m:Mem}{γ:Gam}{ob xs:lXE}{w:World}(hi:Inv m γ (ob++xs) w)(hb:ob.all (Ob.und ob.length)=true):
  Inv m (λo=>if o<ob.length then γ o else none) ob w/\(∀av x,av.und ob.length=true->Rep m γ av x->Rep m (λo=>if o<ob.length then γ o else none) av x):=by
 have hle:Le m γ (List.range' ob.length xs.length) m (λo=>if o<ob.length then γ o else none):=by
  refine⟨λ_ _ h=>h,λo g hg hk=> ?_⟩;have h1:=hi.len o oav;simp only[afS]at h1;by_cases ho:o<ob.length
  ·simp[ho,hg]
  ·exfalso;have:(List.range' ob.length xs.length).contains o=true:=by simp only[List.contains_iff_mem,List.mem_range'_1];omega
   rw[this]at hk;cases hk
 have hks: ∀k∈List.range' ob.length xs.length,ob.length<=k:=λk hk=>(List.mem_range'_1.1 hk).1;have hsome: ∀o g,(if o<ob.length then γ o else none)=some g->o<ob.length/\γ o=some g:=by
  intro o g h;split at h
  ·exact⟨by assumption,h⟩
  ·cases h
 refine⟨⟨hi.mem,λo X hX=> ?_,λo o' b C C' l1 l2 h1 h2=> ?_,λo b C h=>hi.dom o b C (hsome o _ h).2,λo h=> ?_,hi.tab⟩,λav x hb hr=>fj hle av x (wC hks av hb) hr⟩
 ·have ho:=(afF.1 hX).1;have h1:=hi.obj o X (by rw[afO ho];exact hX);have hbX:X.und ob.length=true:=af2.1 hb X (agm hX);cases X with
  |dead=>trivial
  |box T cells=>obtain⟨b,cs,g1,g2,g3,g4⟩:=h1;exact⟨b,cs,by simp only[ho,agL];exact g1,g2,dQ hle _ _ (dH hks _ hbX) g3,g4⟩
  |row T S rows=>
   rcases h1 with⟨g1,g2⟩|⟨b,C,cs,g1,g2,g3,g4,g5,g6,g7,g8⟩
   ·exact .inl ⟨by simp only[ho,agL];exact g1,g2⟩
   ·exact .inr ⟨b,C,cs,by simp only[ho,agL];exact g1,g2,g3,g4,g5,g6,dQ hle _ _ (oT<|jz hks _ hbX) g7,g8⟩
  |mp keys vals=>obtain⟨b,es,clock,g1,g2,g3,g4,g5⟩:=h1;exact⟨b,es,clock,by simp only[ho,agL];exact g1,g2,g3,dQ hle _ _ (dH hks _ hbX) g4,g5⟩
  |lp busy k ts cs=>obtain⟨b,r,xs,g1,g2,g3,g4,g5,g6⟩:=h1;exact⟨b,r,xs,by simp only[ho,agL];exact g1,g2,g3,dQ hle _ _ (dH hks _ hbX) g4,g5,g6⟩
 ·obtain⟨o1,g1⟩:=hsome o _ h1;obtain⟨o2,g2⟩:=hsome o' _ h2;have lv: ∀k,k<ob.length->live ob k->live (ob++xs) k:=by rintro k hk ⟨Y,hY,hne⟩;exact⟨Y,by rw[afO hk];exact hY,hne⟩
  exact hi.sep o o' b C C' (lv o o1 l1) (lv o' o2 l2) g1 g2
 ·by_cases ho:o<ob.length
  ·exact ho
  ·simp[ho]at h
def lh{P:Program}{f:FuncId}{args:lXF}{ob ob':lXE}{kk:lXC}{r:AV}(h:kL P f args ob kk λe o=>e= .ret r/\ ∃xs,o=ob'++xs)(hl:ob.length<=ob'.length)(hr:r.und ob'.length=true)(hb:ob'.all (Ob.und ob'.length)=true):aQ P f args ob kk r ob':=by
 refine⟨h.1,λm γ w vs hi hv=>(h.2 m γ w vs hi hv).mono ?_⟩;rintro e w' ⟨m',γ',r',o,⟨rfl,xs,rfl⟩,h2,h3,h4,h5⟩;obtain⟨k1,k2⟩:=nh h4 hb;have e1:l9 m' (λo=>if o<ob'.length then γ' o else none) e (.ret r):=by
  cases e with
  |returned v=>exact k2 _ _ hr h2
  |panicked c=>exact h2.elim
  |outgrown=>exact h2.elim
 have e2: ∀k,k<w.heap.size->InG (λo=>if o<ob'.length then γ' o else none) k->InG γ k:=by
  rintro k hk ⟨o,C,hg⟩;simp only at hg;split at hg
  ·exact h3.gam k hk ⟨o,C,hg⟩
  ·cases hg
 have e3: ∀o g,kk.contains o=false->γ o=some g->(if o<ob'.length then γ' o else none)=some g:=by intro o g hk hg;have:=hi.len o oav;rw[if_pos oaa];exact h5 o g hk hg
 exact⟨m',_,_,ob',⟨rfl,rfl⟩,e1,⟨h3.mem,h3.new,e2,h3.os,h3.tape,h3.output,h3.size,h3.blk⟩,k1,e3⟩
section
variable{m:Mem}{γ:Gam}{N:Nat}
theorem B8{o N:Nat}(h:o<N):Nat.blt o N=true:=agt h
mutual
theorem B9 (hN: ∀o,γ o≠none->o<N): ∀(av:AV)(x:Value),Rep m γ av x->av.und N=true
 | .any,_,_=>by simp[AV.und]
 | .v _,_,_=>by simp[AV.und]
 | .sl S rows,_,h=>by
  simp only[Rep]at h;obtain⟨a,len,cap,_,_,_,h4⟩:=h;simp only[AV.und];rcases h4 with h4|⟨b,off,_,h6⟩
  ·subst h4;simp[cM]
  ·exact ni hN S rows b off h6
 | .ag cs,_,h=>by simp only[Rep]at h;obtain⟨xs,_,h2⟩:=h;simp only[AV.und];exact eJ hN cs xs h2
 | .tu cs,_,h=>by simp only[Rep]at h;obtain⟨xs,_,h2⟩:=h;simp only[AV.und];exact eJ hN cs xs h2
 | .pt o off,_,h=>by grind[Rep,AV.und,B8]
 | .pf cs,_,h=>by simp only[Rep]at h;obtain⟨b,off,_,h2⟩:=h;simp only[AV.und];exact mf hN cs b off h2
 | .sr o S lo len,_,h=>by grind[Rep,AV.und,B8]
 | .fn f fs cs,_,h=>by simp only[Rep]at h;obtain⟨xs,ys,_,h1,h2⟩:=h;simp only[AV.und,eJ hN fs xs h1,eJ hN cs ys h2,agP]
 | .ifc t y,_,h=>by simp only[Rep]at h;obtain⟨z,_,h1⟩:=h;simp only[AV.und];exact B9 hN y z h1
 | .mp o,_,h=>by grind[Rep,AV.und,B8]
 | .yl o,_,h=>by grind[Rep,AV.und,B8]
 | .cl S rows,_,h=>by
  simp only[Rep]at h;obtain⟨a,len,_,_,h4⟩:=h;simp only[AV.und];rcases h4 with h4|⟨b,off,_,h6⟩
  ·subst h4;simp[cM]
  ·exact ni hN S rows b off h6
theorem eJ (hN: ∀o,γ o≠none->o<N): ∀(cs:lXF)(xs:List Value),au m γ cs xs->bN N cs=true
 |[],_,_=>by simp[bN]
 |c::cs,_,h=>by simp only[au]at h;obtain⟨x,r,_,h1,h2⟩:=h;simp only[bN,B9 hN c x h1,eJ hN cs r h2,agP]
theorem mf (hN: ∀o,γ o≠none->o<N): ∀(cs:lXF)(b off:Nat),bD m γ cs b off->bN N cs=true
 |[],_,_,_=>by simp[bN]
 |c::cs,b,off,h=>by simp only[bD]at h;obtain⟨⟨x,_,h1⟩,h2⟩:=h;simp only[bN,B9 hN c x h1,mf hN cs b (off+1) h2,agP]
theorem ni (hN: ∀o,γ o≠none->o<N) (S:Nat): ∀(rows:List lXF)(b off:Nat),bM m γ S rows b off->cM N rows=true
 |[],_,_,_=>by simp[cM]
 |r::rs,b,off,h=>by simp only[bM]at h;obtain⟨_,h1,h2⟩:=h;simp only[cM,mf hN r b off h1,ni hN S rs b (off+S) h2,agP]
end
theorem tR{N:Nat}: ∀{xs ys:lXF},bN N (xs++ys)=true->bN N xs=true/\bN N ys=true
 |[],ys,h=>⟨by simp[bN],h⟩
 |x::xs,ys,h=>by simp only[agC,bN,afv]at h;obtain⟨h1,h2⟩:=tR h.2;grind[bN]
theorem mg: ∀{xs ys:lXF},aq xs=true->aq ys=true->aq (xs++ys)=true
 |[],ys,_,h=>h
 |x::xs,ys,h,k=>by simp only[aq,afv]at h;simp only[agC,aq,h.1,mg h.2 k,agP]
theorem qB{N:Nat}: ∀{rows:List lXF},bN N rows.flatten=true->cM N rows=true
 |[],_=>by simp[cM]
 |r::rs,h=>by simp only[agw]at h;obtain⟨h1,h2⟩:=tR h;simp[cM,h1,qB h2]
theorem PG{w:World}{o:Nat}{X:Ob}(hN: ∀o,γ o≠none->o<N)(h:gP m γ w o X):X.und N=true:=by
 cases X with
 |dead=>rfl
 |box T cells=>obtain⟨b,cs,g1,g2,g3,g4⟩:=h;exact eJ hN _ _ g3
 |row T S rows=>
  rcases h with⟨g1,g2⟩|⟨b,C,cs,g1,g2,g3,g4,g5,g6,g7,g8⟩
  ·simp[Ob.und,g2,cM]
  ·exact qB (eJ hN _ _ g7)
 |mp keys vals=>obtain⟨b,es,clock,g1,g2,g3,g4,g5⟩:=h;exact eJ hN _ _ g4
 |lp busy k ts cs=>obtain⟨b,r,xs,g1,g2,g3,g4,g5,g6⟩:=h;exact eJ hN _ _ g4
theorem ZO{ob:lXE}{w:World}(hi:Inv m γ ob w):ob.all (Ob.und ob.length)=true:=by refine af2.2 λX hX=> ?_;obtain⟨o,ho⟩:=List.getElem?_of_mem hX;exact PG hi.len (hi.obj o X ho)
end
section
variable{P:Program}{f:FuncId}
def wD{args:lXF}{ob:lXE}{kk:lXC}{r:AV}(h:kL P f args ob kk λe o=>e= .ret r/\ ∃xs,o=ob++xs)(hr:r.und ob.length=true):aQ P f args ob kk r ob:=⟨h.1,λm γ w vs hi hv=>(lh h (afG _) hr<|ZO hi).2 m γ w vs hi hv⟩
theorem MY{args:lXF}{r:AV}{obs:lXE}(h:aQ P f args [] [] r obs)(hp:aq args=true)(ob:lXE):aQ P f args ob [] (r.ren<|bU [] ob.length) (ob++obs.map (Ob.ren<|bU [] ob.length)):=by
 refine⟨h.1,λm γ w vs hi hv=> ?_⟩;have hget: ∀(i s:Nat)(X:Ob),([]:lXC)[i]? =some s->([]:lXE)[i]? =some X->ob[s]? =some (X.ren<|bU [] ob.length)/\X≠ .dead:=λi s X e=>by simp at e
 refine(h.2 m _ w vs (od hi agU rfl hget)<|(cv _ _).2<|by rw[cL _ _ hp];exact hv).mono ?_;rintro e w' ⟨m',γc,r',obc',⟨rfl,rfl⟩,h2,h3,h4,h5⟩;obtain⟨γ',g1,g2,g3,g4⟩:=lg hi (kk:=[]) agU rfl hget (af7 _) oaf h3 h4 h5;have hb:back ob [] [] obc'=ob++obc'.map (Ob.ren<|bU [] ob.length):=by simp[back,gv,dW]
 rw[hb]at g4;refine⟨m',γ',_,_,⟨rfl,rfl⟩,?_,g2,g4,λo g hk hg=>g3.gam o g hg hk⟩;cases e with
 |returned v=>have h2':Rep m' γc r v:=h2;rw[<-show(λk=>γ'<|bU [] ob.length k)=γc from funext g1]at h2';exact(dk _ _).1 h2'
 |panicked c=>exact h2.elim
 |outgrown=>exact h2.elim
def EN{fn:Func}{c:Code}{args:lXF}{ob ob':lXE}{kk:lXC}{r:AV}(hf:P.funcs[f]? =some fn)(hname:(fn.name== "runtime.NumGoroutine")=false)(hb:fn.body=some c)(hn:args.length<=fn.ntmps)(hl:ob.length<=ob'.length)(hr:r.und ob'.length=true)(hbl:ob'.all (Ob.und ob'.length)=true)(h:awp none P fn.ntmps ob.length kk c (JN P fn λe o=>e= .ret r/\ ∃xs,o=ob'++xs) (fJ 0 args) ob):aQ P f args ob kk r ob':=lh (kM hf hname hb hn h) hl hr hbl
end
def kn{L:Loc}:iU L []:=trivial
def kc{L L3:Loc}(t:Nat){av:AV}(h:lk L t=some av)(r:iU L L3):iU L ((t,av)::L3):=⟨h,r⟩
def EO{id:Nat}{Q:dy}{L:Loc}{ob:lXE}(h:Q .normal L ob):jJ id Q (.exit id) L ob:=by simpa [jJ]using h
section
variable{P:Program}{n:Nat}{ops:Array Oper}{l:List Oper}{L:Loc}{ob:lXE}{kf:List Rec->Loc->lXE->Prop}{gu:Loc}
variable{dst:Option Nat}{ty:TypeId}{pos:String}{after:Array Edge}{guard:Option (Nat×Bool)}
end
section
variable{P:Program}{n:Nat}{ops:Array Oper}{o:Oper}{L us:Loc}{ob ob1:lXE}{r:AV}
theorem ko(k:Nat)(hk: ∀i,i<k->ob1[i]? =ob[i]?)(H: ∀kf:List Rec->Loc->lXE->Prop,EvK P n ops [] (cN L o.dst r []) ob1 (λrecs=>kf (⟨o.dst,us,r,[],.write⟩::recs))->EvK P n ops [o] L ob kf){l:List Oper}{kf:List Rec->Loc->lXE->Prop}(kk:EvK P n ops l (cN L o.dst r []) ob1 (λrecs=>kf (⟨o.dst,us,r,[],.from k⟩::recs))):EvK P n ops (o::l) L ob kf:=by
 obtain⟨recs,L2,ob2,hev,rfl,rfl⟩:=H (λrecs _ ob2=>recs=[⟨o.dst,us,r,[],.write⟩]/\ob2=ob1) (n7 ⟨rfl,rfl⟩);cases hev with
 |cons hus hdst hn hst h=>
  cases h with
  |nil=>refine gY (rc:=⟨o.dst,us,r,[],.from k⟩) hus rfl hn ?_ kk;exact⟨hk,hst⟩
theorem PH(t:Nat)(hk: ∀i,tb t i=false->ob1[i]? =ob[i]?)(H: ∀kf:List Rec->Loc->lXE->Prop,EvK P n ops [] (cN L o.dst r []) ob1 (λrecs=>kf (⟨o.dst,us,r,[],.write⟩::recs))->EvK P n ops [o] L ob kf){l:List Oper}{kf:List Rec->Loc->lXE->Prop}(kk:EvK P n ops l (cN L o.dst r []) ob1 (λrecs=>kf (⟨o.dst,us,r,[],.chg t⟩::recs))):EvK P n ops (o::l) L ob kf:=by
 obtain⟨recs,L2,ob2,hev,rfl,rfl⟩:=H (λrecs _ ob2=>recs=[⟨o.dst,us,r,[],.write⟩]/\ob2=ob1) (n7 ⟨rfl,rfl⟩);cases hev with
 |cons hus hdst hn hst h=>
  cases h with
  |nil=>refine gY (rc:=⟨o.dst,us,r,[],.chg t⟩) hus rfl hn ?_ kk;exact⟨hk,hst⟩
end
def ey{α:Type}(P:Program):Sem α->Option α
 | .pure a=>some a
 | .program k=>ey P (k P)
 | .mark _ k=>ey P k
 |_=>none
theorem wE{α:Type}{P:Program}: ∀{s:Sem α}{a:α},ey P s=some a-> ∀w:World,s.run P w= .ok a w:=by
 intro s;induction s with
 |pure a=>simp_all[ey]
 |program k ih=>intro b h w;exact ih P h w
 |mark m k ih=>intro b h w;exact ih h w
 |_=>intro b h w;cases h
def fc:AV->Option Value
 | .v x=>some x
 | .ag cs=>match gb cs with
  |some vs=>some (.agg vs.toArray)
  |none=>none
 | .tu cs=>match gb cs with
  |some vs=>some (.tuple vs.toArray)
  |none=>none
 |_=>none
theorem G5{m:Mem}{γ:Gam}{av:AV}{x y:Value}(h:fc av=some y)(hr:Rep m γ av x):x=y:=by
 cases av with
 |v z=>grind[fc,Rep]
 |ag cs=>
  simp only[fc]at h;cases hp:gb cs with
  |none=>simp[hp]at h
  |some vs=>simp only[hp,afD]at h;subst h;rw[iV hp]at hr;grind[Rep,jK]
 |tu cs=>
  simp only[fc]at h;cases hp:gb cs with
  |none=>simp[hp]at h
  |some vs=>simp only[hp,afD]at h;subst h;rw[iV hp]at hr;grind[Rep,jK]
 |_=>cases h
def ofV:Value->AV
 | .agg cs=> .ag (cs.toList.map .v)
 | .tuple cs=> .tu (cs.toList.map .v)
 |v=> .v v
theorem JS{m:Mem}{γ:Gam}(v:Value):Rep m γ (ofV v) v:=by
 cases v<;>simp only[ofV,Rep]
 ·exact⟨_,by simp,eU _⟩
 grind[eU]
def px:Op->Option (List Operand)
 | .binOp _ _ x y _=>some [x,y]
 | .unOp _ _ x=>some [x]
 | .convert _ _ x=>some [x]
 | .field _ x _=>some [x]
 | .index _ x i=>some [x,i]
 | .extract x _=>some [x]
 | .makeInterface _ x=>some [x]
 | .lookup _ m k _=>some [m,k]
 | .slice _ x lo hi mo=>some (x::(lo.toList++(hi.toList++mo.toList)))
 | .call c=>match c.callee with
  | .builtin _=>some c.args.toList
  |_=>none
 |_=>none
section
variable{ρ ρ':Operand->Value}
theorem yZ{aS:Array Operand}(h: ∀x∈aS.toList,ρ x=ρ' x):aS.map ρ=aS.map ρ':=by simp_all
theorem execOp_congr{o:Oper}{xs:List Operand}(ho:px o.op=some xs)(h: ∀x∈xs,ρ x=ρ' x):execOp ρ o=execOp ρ' o:=by
 obtain⟨dst,op,ty,pos,after,guard⟩:=o;cases op with
 |call c=>
  obtain⟨callee,args,ts⟩:=c;cases callee with
  |builtin b=>simp only[px,afD]at ho;subst ho;simp only[execOp,resolve,yZ h]
  |_=>simp[px]at ho
 |slice t x lo hi mo=>
  simp only[px,afD]at ho;subst ho;have hx:=h x oaf;have hl:lo.map ρ=lo.map ρ':=by
   cases lo with
   |none=>rfl
   |some y=>rw[afV,afV,h y oaf]
  have hh:hi.map ρ=hi.map ρ':=by
   cases hi with
   |none=>rfl
   |some y=>rw[afV,afV,h y oaf]
  have hm:mo.map ρ=mo.map ρ':=by
   cases mo with
   |none=>rfl
   |some y=>rw[afV,afV,h y oaf]
  simp only[execOp,hx,hl,hh,hm]
 |_=>
  simp only[px]at ho;first
  |(cases ho;done)
  |(simp only[afD]at ho
    subst ho;simp only[agc,agI,or_false,forall_eq_or_imp,forall_eq]at h;simp only[execOp,h])
end
section
variable(ev:Operand->Option AV)(x:Operand)
def lj:Value:=match ev x with
 |some av=>match fc av with
  |some v=>v
  |none=>undef
 |none=>undef
def dI:Operand×AV:=(x,match ev x with
 |some av=>av
 |none=> .any)
end
def hU(ev:Operand->Option AV):List Operand->Bool
 |[]=>true
 |x::xs=>match ev x with
  |some av=>match fc av with
   |some _=>hU ev xs
   |none=>false
  |none=>false
theorem mh{L:Loc}: ∀{xs:List Operand},hU (aX L) xs=true->dV L (xs.map<|dI<|aX L)/\ ∀{m:Mem}{γ:Gam}{a:Act},gZ m γ a (xs.map<|dI<|aX L)-> ∀x∈xs,a.eval x=lj (aX L) x
 |[],_=>⟨trivial,λ_ x hx=>by cases hx⟩
 |x::xs,h=>by
  simp only[hU]at h;cases hx:aX L x with
  |none=>simp[hx]at h
  |some av=>
   cases hp:fc av with
   |none=>simp[hx,hp]at h
   |some v=>simp only[hx,hp]at h;obtain⟨h1,h2⟩:=mh h;refine⟨⟨by simp[hx],h1⟩,λhr y hy=> ?_⟩;obtain⟨r1,r2⟩:=hr;grind[G5,lj]
def notNil(_ob:lXE):AV->Nat
 | .pt _ _=>1
 | .pf _=>1
 | .fn _ _ _=>2
 | .ifc _ _=>3
 | .mp _=>4
 | .yl _=>2
 | .sl _ (_::_)=>5
 | .sr _o _ _ (_+1)=>5
 |_=>0
def mi:Value->Nat
 | .pointer none=>1
 | .nilFunc=>2
 | .nilIface=>3
 | .map none=>4
 | .slice none 0 0=>5
 |_=>0
def AA(P:Program)(t:TypeId):Nat:=match P.underlying t with
 |some (.pointer _)=>1
 |some (.func _ _ _)=>2
 |some (.interface _)=>3
 |some (.map _ _)=>4
 |some (.slice _)=>5
 |_=>0
inductive NN:Nat->Value->Prop
 |ptr (a:Addr):NN 1 (.pointer<|some a)
 |fn (f:Fn) (x y:Array Value):NN 2 (.func f x y)
 |ifc (t:TypeId) (x:Value):NN 3 (.iface t x)
 |map (r:Nat):NN 4 (.map<|some r)
 |sl (a:Addr) (l c:Nat):NN 5 (.slice (some a) l c)
def nn_of{m:Mem}{γ:Gam}{ob:lXE}{av:AV}{x:Value}{k:Nat}(hk:notNil ob av=k+1)(hr:Rep m γ av x):NN (k+1) x:=by
 cases av with
 |pt o off=>simp only[notNil]at hk;rw[<-hk];simp only[Rep]at hr;obtain⟨b,C,_,rfl⟩:=hr;exact .ptr _
 |pf cs=>simp only[notNil]at hk;rw[<-hk];simp only[Rep]at hr;obtain⟨b,off,rfl,_⟩:=hr;exact .ptr _
 |fn f fs cs=>simp only[notNil]at hk;rw[<-hk];simp only[Rep]at hr;obtain⟨xs,ys,rfl,_⟩:=hr;exact .fn _ _ _
 |yl o=>simp only[notNil]at hk;rw[<-hk];simp only[Rep]at hr;obtain⟨b,C,_,rfl⟩:=hr;exact .fn _ _ _
 |ifc t y=>simp only[notNil]at hk;rw[<-hk];simp only[Rep]at hr;obtain⟨z,rfl,_⟩:=hr;exact .ifc _ _
 |mp o=>simp only[notNil]at hk;rw[<-hk];simp only[Rep]at hr;obtain⟨b,C,_,rfl⟩:=hr;exact .map _
 |sl S rows=>
  cases rows with
  |nil=>simp[notNil]at hk
  |cons r rs=>simp only[notNil]at hk;rw[<-hk];simp only[Rep]at hr;obtain⟨a,len,cap,rfl,_,_,h⟩:=hr;obtain⟨b,off,rfl,_⟩:=h.resolve_left oaf;exact .sl _ _ _
 |sr o S lo len=>
  cases len with
  |zero=>simp[notNil]at hk
  |succ len=>
   simp only[notNil]at hk;rw[<-hk];simp only[Rep]at hr;rcases hr with⟨_,_,_,h⟩|⟨b,C,cap,_,_,_,_,(rfl|⟨h,_⟩)⟩
   ·omega
   ·exact .sl _ _ _
   ·omega
 |_=>simp[notNil]at hk
def Ca{y:Value}{k:Nat}(hy:mi y=k):(k=1/\y= .pointer none)\/(k=2/\y= .nilFunc)\/(k=3/\y= .nilIface)\/(k=4/\y= .map none)\/(k=5/\y= .slice none 0 0)\/k=0:=by unfold mi at hy;split at hy<;>subst hy<;>simp
inductive NP:Value->Value->Nat->Prop
 |ptr (a:Addr):NP (.pointer<|some a) (.pointer none) 1
 |fn (f:Fn) (x y:Array Value):NP (.func f x y) .nilFunc 2
 |ifc (t:TypeId) (x:Value):NP (.iface t x) .nilIface 3
 |map (r:Nat):NP (.map<|some r) (.map none) 4
 |sl (a:Addr) (l c:Nat):NP (.slice (some a) l c) (.slice none 0 0) 5
def np_of{k:Nat}{x y:Value}(hx:NN (k+1) x)(hy:mi y=k+1):NP x y (k+1):=by cases hx<;>(rcases Ca hy with⟨h,rfl⟩|⟨h,rfl⟩|⟨h,rfl⟩|⟨h,rfl⟩|⟨h,rfl⟩|h<;>first|(exact absurd h oaE)|constructor)
def eq_nn{P:Program}{w:World}{k d:Nat}{x y:Value}{t:TypeId}(h:NP x y (k+1))(ht:AA P t=k+1):(Op.equalIn (d+1) t x y).run P w= .ok false w:=by
 have hu: ∃d,P.underlying t=some d/\(match d with| .pointer _=>1| .func _ _ _=>2| .interface _=>3| .map _ _=>4| .slice _=>5|_=>0)=k+1:=by grind[AA]
 obtain⟨D,hu,hd⟩:=hu;cases h<;>(cases D<;>first|(cases hd;done)|simp[Op.equalIn,run_underlying hu])
def ac2{P:Program}{w:World}{k:Nat}{x y:Value}{t:TypeId}(hx:NN (k+1) x)(hy:mi y=k+1)(ht:AA P t=k+1)(p q:Operand):(do eqGuard .eql t p q x y;binOp .eql t x y).run P w= .ok (.bool false) w/\(do eqGuard .neq t p q x y;binOp .neq t x y).run P w= .ok (.bool true) w:=by
 have h:=np_of hx hy;have he:(Op.equal t x y).run P w= .ok false w:=eq_nn (P:=P) (w:=w) (d:=9999) h ht;have hg: ∀op,(eqGuard op t p q x y).run P w= .ok () w:=by intro op;unfold eqGuard;cases h<;>(split<;>rfl)
 have hb:binOp .eql t x y=(do pure<|.bool<|<-Op.equal t x y)/\binOp .neq t x y=(do pure<|.bool<|!(<-Op.equal t x y)):=by cases h<;>exact⟨rfl,rfl⟩
 simp_all
section
variable{P:Program}{n:Nat}{ops:Array Oper}{l:List Oper}{L:Loc}{ob:lXE}{kf:List Rec->Loc->lXE->Prop}{gu:Loc}
variable{dst:Option Nat}{ty:TypeId}{pos:String}{after:Array Edge}{guard:Option (Nat×Bool)}
theorem iG{o:Oper}{xs:List Operand}{r:Value}(ho:px o.op=some xs)(hx:hU (aX L) xs=true)(hr:ey P (execOp (lj<|aX L) o)=some (.value r))(hg:Gd ops L o.guard gu)(hn: ∀d,o.dst=some d->d<n)(k:EvK P n ops l (cN L o.dst (ofV r) []) ob (λrecs=>kf<|⟨o.dst,gu++cg (xs.map<|dI<|aX L),ofV r,[],.pure⟩::recs)):EvK P n ops (o::l) L ob kf:=cK (xs.map<|dI<|aX L) (mh hx).1 hg hn (by grind[execOp_congr,mh,wE,JS]) k
theorem abA{op:BinOp}{x y:Operand}{t t':TypeId}{av:AV}{z:Value}{k:Nat}{c:Bool}(hx:aX L x=some av)(hy:aX L y=some (.v z))(h1:notNil ob av=k+1)(h2:mi z=k+1)(h3:AA P t=k+1)(hc:(op= .eql/\c=false)\/(op= .neq/\c=true))(hg:Gd ops L guard gu)(hn: ∀d,dst=some d->d<n)(kk:EvK P n ops l (cN L dst (.v<|.bool c) []) ob (λrecs=>kf<|⟨dst,gu++cg [(x,av),(y,.v z)],.v (.bool c),[],.pure⟩::recs)):EvK P n ops (⟨dst,.binOp op t x y t',ty,pos,after,guard⟩::l) L ob kf:=cK (o:=⟨dst,.binOp op t x y t',ty,pos,after,guard⟩) [(x,av),(y,.v z)] ⟨hx,hy,trivial⟩ hg hn (λm γ w a _ h=>by obtain⟨g1,g2,_⟩:=h;simp only[Rep]at g2;have:=ac2 (P:=P) (w:=w) (nn_of h1 g1) h2 h3 x y;refine⟨.bool c,?_,by simp[Rep]⟩;grind[Sem.run_bind,execOp,Result.andThen_ok,Sem.run_pure]) kk
def wF(P:Program)(t:TypeId):Option Bool:=match P.underlying t with
 |some (.interface _)=>some true
 |some _=>some false
 |none=>none
theorem PJ{x:Operand}{t:TypeId}{av:AV}(ht:wF P t=some false)(hx:aX L x=some av)(hg:Gd ops L guard gu)(hn: ∀d,dst=some d->d<n)(kk:EvK P n ops l (cN L dst (.ifc t av) []) ob (λrecs=>kf<|⟨dst,gu++cg [(x,av)],.ifc t av,[],.pure⟩::recs)):EvK P n ops (⟨dst,.makeInterface t x,ty,pos,after,guard⟩::l) L ob kf:=
 cK (o:=⟨dst,.makeInterface t x,ty,pos,after,guard⟩) [(x,av)] ⟨hx,trivial⟩ hg hn (λm γ w a _ h=>by
  refine⟨.iface t (a.eval x),?_,by simp only[Rep];exact⟨_,rfl,h.1⟩⟩;unfold wF at ht;cases hu:P.underlying t with
  |none=>simp[hu]at ht
  |some d=>rw[hu]at ht;cases d<;>first|(simp at ht;done)|simp[execOp,Instr.makeInterface,run_underlying hu]) kk
theorem PK{L:Loc}{ps qs:List Operand}{avs bvs:lXF}{xs ys:List (Operand×AV)}(h:EvA L ps avs xs)(k:EvA L qs bvs ys):dV L (xs++ys):=by
 have h1:=jy h;have h2:=jy k;clear h k;induction xs with
 |nil=>exact h2
 |cons p xs ih=>exact⟨h1.1,ih h1.2⟩
def nj{m:Mem}{γ:Gam}{a:Act}: ∀{xs ys:List (Operand×AV)},gZ m γ a (xs++ys)->gZ m γ a xs/\gZ m γ a ys
 |[],_ys,h=>⟨trivial,h⟩
 |(_x,_av)::_xs,_ys,h=>⟨⟨h.1,(nj h.2).1⟩,(nj h.2).2⟩
theorem PL{f:Fn}{fs cs:List Operand}{avs bvs:lXF}{xs ys:List (Operand×AV)}(h1:EvA L fs avs xs)(h2:EvA L cs bvs ys)(hg:Gd ops L guard gu)(hn: ∀d,dst=some d->d<n)(kk:EvK P n ops l (cN L dst (.fn f avs bvs) []) ob (λrecs=>kf<|⟨dst,gu++cg (xs++ys),.fn f avs bvs,[],.pure⟩::recs)):EvK P n ops (⟨dst,.makeFunc f fs.toArray cs.toArray,ty,pos,after,guard⟩::l) L ob kf:=cK (o:=⟨dst,.makeFunc f fs.toArray cs.toArray,ty,pos,after,guard⟩) (xs++ys) (PK h1 h2) hg hn (λm γ w a _ h=>by obtain⟨g1,g2⟩:=nj h;refine⟨.func f (fs.map a.eval).toArray (cs.map a.eval).toArray,by simp[execOp,Instr.makeFunc],?_⟩;grind[Rep,jN]) kk
section
variable{x:Operand}{f:FuncId}{fs cs:lXF}{args:List Operand}{avs:lXF}{xs:List (Operand×AV)}{ts:Array TypeId}{r:AV}
theorem wG{ks:lXC}{ob1:lXE}(hx:aX L x=some (.fn (.func f) fs cs))(ha:EvA L args avs xs)(hc:aQ P f (fs++(avs++cs)) ob ks r ob1)(hg:Gd ops L guard gu)(hn: ∀d,dst=some d->d<n)(kk:EvK P n ops l (cN L dst r ks) ob1 (λrecs=>kf<|⟨dst,gu++cg ((x,.fn (.func f) fs cs)::xs),r,ks,.write⟩::recs)):EvK P n ops (⟨dst,.call ⟨.value x,args.toArray,ts⟩,ty,pos,after,guard⟩::l) L ob kf:=
 ki (o:=⟨dst,.call ⟨.value x,args.toArray,ts⟩,ty,pos,after,guard⟩) ks ((x,.fn (.func f) fs cs)::xs) ⟨hx,jy ha⟩ hg hn (λm γ w a K Q hi h hK=>by
  obtain⟨h1,h2⟩:=h;simp only[Rep]at h1;obtain⟨us,vs,e,r1,r2⟩:=h1;obtain⟨⟨fn,hf,hname,hb⟩,hc⟩:=hc;unfold Oper.wp;rw[qz hf hname hb (first:=us) (cap:=vs) e,Oper.upon_enter];refine(hc m γ w (us++args.map a.eval++vs) hi ?_).mono ?_
  ·rw[agJ];exact cu r1 (cu (jN ha h2) r2)
  ·rintro e w' ⟨m',γ',r',ob',⟨rfl,rfl⟩,h2,h3,h4,h5⟩;cases e with
   |returned v=>exact hK m' γ' w' v h3 ⟨h3.mem,λo g hg hk=>h5 o g hk hg⟩ h4 h2
   |panicked c=>exact h2.elim
   |outgrown=>exact h2.elim) kk
theorem EP(hx:aX L x=some (.fn (.func f) fs cs))(ha:EvA L args avs xs)(hc:aQ P f (fs++(avs++cs)) [] [] r [])(hp:aq avs=true)(hp1:aq fs=true)(hp2:aq cs=true)(hr:r.pure=true)(hg:Gd ops L guard gu)(hn: ∀d,dst=some d->d<n)(kk:EvK P n ops l (cN L dst r []) ob (λrecs=>kf<|⟨dst,gu++cg ((x,.fn (.func f) fs cs)::xs),r,[],.pure⟩::recs)):EvK P n ops (⟨dst,.call ⟨.value x,args.toArray,ts⟩,ty,pos,after,guard⟩::l) L ob kf:=
 B0 (o:=⟨dst,.call ⟨.value x,args.toArray,ts⟩,ty,pos,after,guard⟩) ((x,.fn (.func f) fs cs)::xs) ⟨hx,jy ha⟩ hg hn (λob m γ w a K Q hi h hK=>by
  obtain⟨h1,h2⟩:=h;simp only[Rep]at h1;obtain⟨us,vs,e,r1,r2⟩:=h1;refine ZN (sel:=[]) (obc:=[]) (ob:=ob) hc hi agU trivial oaf (first:=us) (cap:=vs) e ?_ (λe o⟨h1,h2⟩=>⟨r,h1,af7 _⟩) ?_
  ·rw[hJ,hJ,cL _ _ hp,cL _ _ hp1,cL _ _ hp2,agJ];exact cu r1 (cu (jN ha h2) r2)
  ·rintro m' γ' w' v r' obc' ⟨h1,rfl⟩ h2 h3 h4 h5;cases h1;rw[cR _ _ hr]at h5;rw[EM]at h4;exact hK m' γ' w' v h2 h3 h4 h5) kk
end
end
section
variable{P:Program}{m:Mem}{γ:Gam}{ob:lXE}{w:World}
theorem PM(hi:Inv m γ ob w):Inv m γ ob w.drew/\Trans m γ w m γ w.drew:=by refine⟨⟨hi.mem,λo X hX=> ?_,hi.sep,hi.dom,hi.len,hi.tab⟩,⟨λ_ _ h=>h,λ_ _ h=> .inl h,λ_ _ h=>h,rfl,rfl,rfl,afG _,λ_ _ _=>rfl⟩⟩;have:=hi.obj o X hX;cases X<;>exact this
theorem og{o k:Nat}(h:live (ob.set o .dead) k):live ob k/\k≠o:=by
 obtain⟨Y,hY,hne⟩:=h;by_cases e:o=k
 ·grind
 ·rw[af1 e]at hY;exact⟨⟨Y,hY,hne⟩,λh=>e h.symm⟩
theorem qC(hi:Inv m γ ob w)(o:Nat):Inv m γ (ob.set o .dead) w:=by
 refine⟨hi.mem,λq X hX=> ?_,λq q' b C C' l1 l2=>hi.sep q q' b C C' (og l1).1 (og l2).1,hi.dom,λq hq=>by simpa using hi.len q hq,hi.tab⟩;by_cases e:o=q
 ·subst e;have:=(afF.1 hX).1;rw[af3]at this;rw[agi this]at hX;cases hX;trivial
 ·rw[af1 e]at hX;exact hi.obj q X hX
theorem MZ(hi:Inv m γ ob w){o b C:Nat}{X X':Ob}(ho:ob[o]? =some X)(hX:X≠ .dead)(hg:γ o=some (some (b,C)))(hm: ∀off,m ⟨b,off,none⟩=none){w':World}(hother: ∀k,k≠b->w'.heap[k]? =w.heap[k]?)(hsz:w'.heap.size=w.heap.size)(hos:w'.os=w.os)(htape:w'.tape=w.tape)(hout:w'.output=w.output)(C':Nat)(hX':gP m (dT γ ob.length b C') w' ob.length X'):Inv m (dT γ ob.length b C') (ob.set o .dead++ [X']) w'/\Trans m γ w m (dT γ ob.length b C') w'/\Le m γ [] m (dT γ ob.length b C'):=by
 have hlen:o<ob.length:=(afF.1 ho).1;have hle:=fS hi b C';have hold: ∀q,q<ob.length->dT γ ob.length b C' q=γ q:=λq hq=>by simp[dT,show q≠ob.length by omega]
 have hb:=hi.dom o b C hg;have hsl:(ob.set o Ob.dead).length=ob.length:=af3 ..;have hlv: ∀q,live (ob.set o .dead++ [X']) q->q=ob.length\/(q<ob.length/\live ob q/\q≠o):=by
  rintro q ⟨Y,hY,hne⟩;by_cases e:q<ob.length
  ·rw[afO (by rw[hsl];exact e)]at hY;exact .inr ⟨e,og ⟨Y,hY,hne⟩⟩
  ·have:=(afF.1 hY).1;simp at this;exact .inl oaa
 refine⟨⟨λa x h=> ?_,λq Y hY=> ?_,λq q' c D D' l1 l2 h1 h2=> ?_,λq c D h=> ?_,λq h=> ?_,hi.tab.but m hm λk _ h=>hother k h⟩,⟨λ_ _ h=>h,λ_ _ h=> .inl h,?_,hos,htape,hout,by omega,λk hk hn=>hother k λe=>hn ⟨o,C,by rw[e];exact hg⟩⟩,hle⟩
 ·rw[World.cell?_of_block (hother _<|Av hi hm h)];exact hi.mem a x h
 ·by_cases e:q<ob.length
  ·rw[afO (by rw[hsl];exact e)]at hY;by_cases eo:o=q
   ·subst eo;rw[agi hlen]at hY;cases hY;trivial
   ·rw[af1 eo]at hY;by_cases hd:Y= .dead
    ·subst hd;trivial
    ·exact dU (hi.obj q Y hY) hle (λc D hc=>hother c λec=>eo<|hi.sep o q b C D ⟨X,ho,hX⟩ ⟨Y,hY,hd⟩ hg<|ec▸hc) (λ_ _ _ _ h=>h)
  ·have:=(afF.1 hY).1;have e2:q=ob.length:=by simp at this;omega
   subst e2;rw[agb (by rw[hsl];exact afG _),hsl]at hY;simp at hY;subst hY;exact hX'
 ·have aux: ∀q D,q<ob.length->live ob q->q≠o->γ q=some (some (b,D))->False:=λq D hq hl hne h=>hne (hi.sep q o b D C hl ⟨X,ho,hX⟩ h hg);rcases hlv q l1 with rfl|⟨e1,v1,n1⟩
  ·rcases hlv q' l2 with rfl|⟨e2,v2,n2⟩
   ·rfl
   ·rw[hold q' e2]at h2;simp only[dT,agL,afD,afW]at h1;rw[<-h1.1]at h2;exact(aux q' D' e2 v2 n2 h2).elim
  ·rw[hold q e1]at h1;rcases hlv q' l2 with rfl|⟨e2,v2,n2⟩
   ·simp only[dT,agL,afD,afW]at h2;rw[<-h2.1]at h1;exact(aux q D e1 v1 n1 h1).elim
   ·rw[hold q' e2]at h2;exact hi.sep q q' c D D' v1 v2 h1 h2
 ·rw[hsz];by_cases e:q=ob.length
  ·subst e;simp only[dT,agL,afD,afW]at h;omega
  ·simp only[dT,e,if_false]at h;exact hi.dom q c D h
 ·by_cases e:q=ob.length
  ·simp[e]
  ·simp only[dT,e,if_false]at h;have:=hi.len q h;simp;omega
 ·rintro k hk ⟨q,D,h⟩;by_cases e:q=ob.length
  ·subst e;simp only[dT,agL,afD,afW]at h;exact⟨o,C,by rw[hg,h.1]⟩
  ·simp only[dT,e,if_false]at h;exact⟨q,D,h⟩
theorem nk(hi:Inv m γ ob w): ∀{cs:lXF}{b off:Nat},bD m γ cs b off-> ∃xs,au m γ cs xs/\ ∀j v,xs[j]? =some v->w.cell? ⟨b,off+j,none⟩=some v
 |[],b,off,_=>(by simp_all[au])
 |c::cs,b,off,h=>by
  simp only[bD]at h;obtain⟨⟨x,h1,h2⟩,h3⟩:=h;obtain⟨xs,k1,k2⟩:=nk hi h3;refine⟨x::xs,by grind[au],λj v hv=> ?_⟩;cases j with
  |zero=>simp at hv;subst hv;exact hi.mem _ _ h1
  |succ j=>grind
theorem tS{S:Nat}: ∀{rows:List lXF}{b off:Nat},bM m γ S rows b off-> ∀r∈rows,r.length=S
 |[],_,_,_,r,hr=>by simp at hr
 |q::rows,b,off,h,r,hr=>by
  simp only[bM]at h;rcases agc.1 hr with rfl|hr
  ·exact h.1
  ·exact tS h.2.2 r hr
theorem tT{γ:Gam}: ∀{cs:lXF}{xs:List Value},au m γ cs xs->xs.length=cs.length
 |[],xs,h=>by simp only[au]at h;subst h;rfl
 |c::cs,xs,h=>by simp only[au]at h;obtain⟨x,r,rfl,_,h⟩:=h;simp[tT h]
theorem oU(hi:Inv m γ ob w){S:Nat}: ∀{rows:List lXF}{b off:Nat},bM m γ S rows b off-> ∃xs,au m γ rows.flatten xs/\xs.length=rows.length*S/\ ∀j v,xs[j]? =some v->w.cell? ⟨b,off+j,none⟩=some v
 |[],b,off,_=>⟨[],by simp[au],by simp,λj v h=>by simp at h⟩
 |r::rows,b,off,h=>by
  simp only[bM]at h;obtain⟨h1,h2,h3⟩:=h;obtain⟨ys,q1,q2⟩:=nk hi h2;obtain⟨xs,k1,k2,k3⟩:=oU hi h3;have hy:ys.length=S:=(tT q1).trans h1;refine⟨ys++xs,by rw[agw];exact cu q1 k1,by rw[afS,hy,k2,afX,agD,Nat.one_mul,Nat.add_comm],λj v hv=> ?_⟩;by_cases hj:j<ys.length
  ·rw[afO hj]at hv;exact q2 j v hv
  ·rw[agb oaa]at hv;have:=k3 _ v hv;rwa[show off+S+(j-ys.length)=off+j from by omega]at this
theorem G6{t tx e:TypeId}{S B k:Nat}{zs:List Value}{rows new:List lXF}{ob1:lXE}(ht:slk P t=some (e,S,B))(hz:zer P e=some zs)(hzl:zs.length=S)(ty:TypeId)(hi:Inv m γ ob w)(hlen:(k+new.length)*B<=140737488355328)(hmax:k+new.length<=9223372036854775807)(hS2: ∀r∈new,r.length=S){vx:Value}(h1:(vx= .slice none 0 0/\k=0/\rows=[]/\ob1=ob)\/(Rep m γ (.cl S rows) vx/\k=rows.length/\new≠ []/\ob1=ob)\/ ∃o,Rep m γ (.sr o S 0 k) vx/\ob[o]? =some (.row e S rows)/\k<=rows.length/\ob1=ob.set o .dead){x:Value}{news:List Value}(hs:Src P S tx x new.length news w)(n1:au m γ new.flatten news):∃v w' γ',(Builtin.append_ #[t,tx] ty #[vx,x]).run P w= .ok v w'/\Trans m γ w m γ' w'/\Le m γ [] m γ'/\Inv m γ' (ob1++ [.row e S (rows.take k++new)]) w'/\Rep m γ' (.sr ob.length S 0<|k+new.length) v:=by
 obtain⟨hu,inf,g1,g2,g3⟩:=kY ht;obtain⟨z,hzz,hzc⟩: ∃z,inf.zero=some z/\z.cells.size=S:=by
  unfold zer at hz;rw[g1]at hz;cases hzz:inf.zero with
  |none=>simp[hzz]at hz
  |some z=>refine⟨z,rfl,?_⟩;simp[hzz]at hz;subst hz;simpa using hzl
 have hs':Src P inf.size tx x new.length news w:=by rw[g2];exact hs
 have n2:news.length=new.length*S:=hs.newsLen;obtain⟨hid,htd⟩:=PM hi;have hdead: ∀{γ'} {w'} {Y},Inv m γ' (ob++ [Y]) w' ->(vx= .slice none 0 0/\k=0/\rows=[]/\ob1=ob)\/(Rep m γ (.cl S rows) vx/\k=rows.length/\new≠ []/\ob1=ob)\/(∃o,Rep m γ (.sr o S 0 k) vx/\ob[o]? =some (.row e S rows)/\k<=rows.length/\ob1=ob.set o .dead)->Inv m γ' (ob1++ [Y]) w':=by
  rintro γ' w' Y h (⟨_,_,_,rfl⟩|⟨_,_,_,rfl⟩|⟨o,_,ho,_,rfl⟩)
  ·exact h
  ·exact h
  ·have:=qC h o;rwa[List.set_append_left _ _ (afF.1 ho).1]at this
 obtain⟨base,cap,olds,rfl,c1,c2,c3,c4,c5,c6⟩: ∃base cap olds,vx= .slice base k cap/\k<=cap/\au m γ (rows.take k).flatten olds/\olds.length=k*S/\(rows.take k).length=k/\(∀r∈rows.take k,r.length=S)/\
   ((cap=0/\k=0/\olds=[])\/(cap=k/\new≠ []/\ ∃b off,base=some ⟨b,off,none⟩/\ ∀j v,olds[j]? =some v->w.cell? ⟨b,off+j,none⟩=some v)\/ ∃o b C cur,γ o=some (some (b,C))/\base=some ⟨b,0,none⟩/\cap<=C/\ob[o]? =some (.row e S rows)/\CA w b cur e/\cur.size=C*S/\C<=maxLen/\olds=cur.toList.take (k*S)/\(∀off,m ⟨b,off,none⟩=none)/\ob1=ob.set o .dead):=by
  rcases h1 with⟨rfl,rfl,rfl,rfl⟩|⟨hr,rfl,hne,rfl⟩|⟨o,hr,ho,hk,rfl⟩
  ·exact⟨none,0,[],rfl,afG _,by simp[au],by simp,by simp,by simp,.inl ⟨rfl,rfl,rfl⟩⟩
  ·simp only[Rep]at hr;obtain⟨ad,len,rfl,rfl,hr⟩:=hr;rcases hr with rfl|⟨b,off,rfl,hr⟩
   ·exact⟨ad,0,[],rfl,afG _,by simp[au],by simp,by simp,by simp,.inl ⟨rfl,rfl,rfl⟩⟩
   ·obtain⟨olds,q1,q2,q3⟩:=oU hi hr;exact⟨some ⟨b,off,none⟩,rows.length,olds,rfl,afG _,by rw[agv];exact q1,q2,by simp,by rw[agv];exact tS hr,.inr (.inl ⟨rfl,hne,b,off,rfl,q3⟩)⟩
  ·simp only[Rep]at hr;rcases hr with⟨q1,⟨ad,rfl⟩,_,rfl⟩|⟨b,C,cap,q1,q2,q3,q4,(rfl|⟨_,h,_⟩)⟩
   rotate_right
   ·exact absurd rfl h
   ·exact⟨ad,0,[],rfl,afG _,by simp[au],by simp,by simp,by simp,.inl ⟨rfl,rfl,rfl⟩⟩
   ·rcases hi.obj o _ ho with⟨e1,_⟩|⟨b',C',cur,p1,p2,p3,p4,p5,p6,p7,p8⟩
    ·rw[q1]at e1;cases e1
    ·rw[q1]at p1;cases p1;have hold:=dG p7 (k*S);rw[List.take_take,oc p6 hk,Nat.min_eq_left (agu _ hk)]at hold;have hkC:k*S<=C*S:=agu _ oaa;exact⟨some ⟨b,0,none⟩,cap,_,by simp,q3,hold,by simp;omega,by simp;omega,λr hr=>p6 r (agy hr),.inr<| .inr ⟨o,b,C,cur,q1,rfl,by omega,ho,p2,p3,p5,rfl,p8,rfl⟩⟩
 have htot:(rows.take k++new).length=k+new.length:=by rw[afS,c4]
 have hallS: ∀r∈rows.take k++new,r.length=S:=by
  intro r hr;rcases agn.1 hr with h|h
  ·exact c5 r h
  ·exact hS2 r h
 have hall:=cu c2 n1;rw[<-List.flatten_append]at hall;have htl:(olds++news).length=(k+new.length)*S:=by rw[afS,c3,n2,agD]
 by_cases hroom:k+new.length<=cap
 ·rcases c6 with⟨rfl,rfl,rfl⟩|⟨rfl,hne,_⟩|⟨o,b,C,cur,q1,rfl,q2,ho,p2,p3,p5,hol,p8,rfl⟩
  rotate_left
  ·exact absurd (agk oaa) hne
  rotate_left
  ·have hn0:new.length=0:=by omega
   have hn:new=[]:=agk hn0;subst hn;obtain⟨i1,i2,i3⟩:=tQ hi e S;refine⟨_,w,_,uB w t tx ty e inf hu g1 hs' base,i2,i3,hdead (by simpa using i1) h1,by simp[Rep]⟩
  ·have hCn:(k+new.length)*S<=C*S:=agu _ oaa;rw[agD]at hCn;have hr:=qx (P:=P) w t tx ty e inf hu g1 b k cap cur p2 hs' hroom (by rw[g2];omega);rw[g2]at hr;have hlk:(cur.toList.take<|k*S).length=k*S:=by rw[<-hol];exact c3
   obtain⟨i1,i2,i3⟩:=MZ hi (X':= .row e S<|rows.take k++new) ho oaf q1 p8 (λq hq=>setRow_other w b q (cur.toList.take (k*S)++news++cur.toList.drop (k*S+news.length)).toArray hq) (by simp[World.setRow]) rfl rfl rfl C
    (.inr ⟨b,C,_,by simp[dT],p2.setRow (by
     simp only[ag8,afS,hlk,ag2,ag1];omega),by
     simp only[ag8,afS,hlk,ag2,ag1];omega,by rw[htot];omega,p5,hallS,by
     rw[htot];simp only;rw[<-htl,<-hol,List.take_left];exact fK (fS hi _ _) hall,p8⟩)
   exact⟨_,_,_,hr,i2,i3,i1,by simp only[Rep];exact .inr ⟨b,C,cap,by simp[dT],by omega,by omega,by omega,.inl oaf⟩⟩
 ·have hr:=run_append_grow_src (P:=P) w t tx ty e inf z hu g1 hzz base k cap olds (by
   rcases c6 with⟨rfl,rfl,rfl⟩|⟨rfl,hne,b,off,rfl,hcell⟩|⟨o,b,C,cur,q1,rfl,q2,ho,p2,p3,p5,hol,p8,_⟩
   ·cases base<;>simp[Builtin.firstCells,loadCells,loadCellsFrom]
   ·refine run_firstCells_some w.drew inf.size _ ⟨b,off,none⟩ _ _ _ (by rw[g2];exact c3) (λj v hv=> ?_);rw[fq];exact hcell j v hv
   ·refine run_firstCells_some w.drew inf.size k ⟨b,0,none⟩ k cap _ (by rw[g2];exact c3) (λj v hv=> ?_);rw[fq];have:CA w.drew b cur e:=p2;rw[this.cell];rw[hol,agp]at hv;split at hv
    ·simpa using hv
    ·cases hv) x new.length news hs' oaa oaa (growslice_fits oaa<|by rw[g3];exact hlen)
  have hge:=grownCap_ge w (k+new.length) cap e;have hcm:=grownCap_le_maxLen w (k+new.length) cap e (by unfold maxLen;omega);obtain⟨k1,k2⟩:=n9 hid (.cells ((olds++news).toArray++Builtin.zeroCells z.cells (grownCap w (k+new.length) cap e-(k+new.length))) e) (grownCap w (k+new.length) cap e) (.row e S<|rows.take k++new)
   (.inr ⟨w.heap.size,grownCap w (k+new.length) cap e,_,by simp[dT],CA.mS (heap_alloc_new w.drew _),by
    simp only[Array.size_append,ag8,size_zeroCells,hzc,htl,<-agD];congr 1;omega,by rw[htot];exact hge,hcm,hallS,by
    rw[htot];simp only[Array.toList_append];rw[<-htl,List.take_left];exact fK (fS hid _ _) hall,λoff=>jD hi (afG _) off⟩)
  refine⟨_,_,_,hr,htd.trans k2,fS hid _ _,hdead k1 h1,?_⟩;simp only[Rep];exact .inr ⟨w.heap.size,grownCap w (k+new.length) cap e,grownCap w (k+new.length) cap e,by simp[dT],by omega,by omega,by omega,.inl oaf⟩
end
section
variable{P:Program}{n:Nat}{ops:Array Oper}{l:List Oper}{L:Loc}{ob:lXE}{kf:List Rec->Loc->lXE->Prop}{gu:Loc}
variable{dst:Option Nat}{ty:TypeId}{pos:String}{after:Array Edge}{guard:Option (Nat×Bool)}
inductive Dst(ob:lXE)(e:TypeId)(S:Nat):AV->Nat->List lXF->lXE->Prop
 |none:Dst ob e S (.v<|.slice none 0 0) 0 [] ob
 |cl {rows:List lXF}:Dst ob e S (.cl S rows) rows.length rows ob
 |row {o k:Nat} {rows:List lXF} (ho:ob[o]? =some (.row e S rows)) (hk:k<=rows.length):Dst ob e S (.sr o S 0 k) k rows (ob.set o .dead)
def clB:AV->List lXF->Bool
 | .cl _ _,new=> !Nat.beq new.length 0
 |_,_=>true
theorem G7{t tx e:TypeId}{S B k:Nat}{zs:List Value}{x y:Operand}{avx avy:AV}{rows new:List lXF}{ob1:lXE}(ht:slk P t=some (e,S,B))(hz:zer P e=some zs)(hzl:zs.length=S)(hx:aX L x=some avx)(hy:aX L y=some avy)(hd:Dst ob e S avx k rows ob1)(hcl:clB avx new=true)(hs:yX ob S avy=some new)(hst:yY P tx avy=true)(hone:eu new=true)(hlen:(k+new.length)*B<=140737488355328)(hmax:k+new.length<=9223372036854775807)(hg:Gd ops L guard gu)(hn: ∀d,dst=some d->d<n)(kk:EvK P n ops l (cN L dst (.sr ob.length S 0<|k+new.length) []) (ob1++ [.row e S (rows.take k++new)]) (λrecs=>kf<|⟨dst,gu++cg [(x,avx),(y,avy)],.sr ob.length S 0 (k+new.length),[],.write⟩::recs)):EvK P n ops (⟨dst,.call ⟨.builtin .append,#[x,y],#[t,tx]⟩,ty,pos,after,guard⟩::l) L ob kf:=
 ki (o:=⟨dst,.call ⟨.builtin .append,#[x,y],#[t,tx]⟩,ty,pos,after,guard⟩) [] [(x,avx),(y,avy)] ⟨hx,hy,trivial⟩ hg hn (λm γ w a K Q hi h hK=>by
  obtain⟨h1,h2,_⟩:=h;obtain⟨news,k1,k2,k3⟩:=PF hi h2 hs hst hone;obtain⟨v,w',γ',r1,r2,r3,r4,r5⟩:=G6 ht hz hzl ty hi hlen hmax k3 (rows:=rows) (ob1:=ob1) (vx:=a.eval x) (by
   cases hd with
   |none=>grind[Rep]
   |cl=>exact .inr (.inl ⟨h1,rfl,λe=>(by subst e;cases hcl),rfl⟩)
   |row ho hk=>grind) k1 k2
  refine iX (v:=v) (w':=w') ?_ (hK m γ' w' v r2 r3 r4 r5);simp[execOp,resolve,invoke,builtin,r1]) kk
end
def qD{S:Nat}{zs:lXF}(hz:zs.length=S): ∀n,((replicate n zs).flatten).length=n*S
 |0=>by simp
 |n+1=>by simp_all
def Cb{m:Mem}{γ:Gam}{z:Array Value}{S:Nat}(hz:z.size=S)(hS:0<S)(n:Nat): ∀N,N=n*S->au m γ (replicate n<|z.toList.map AV.v).flatten (madeCells z N).toList:=by
 intro N hN;subst hN;have hl:(z.toList.map AV.v).length=S:=by simp[hz]
 have hfl:=qD hl n;refine cF (by rw[hfl,ag1,size_madeCells]) λi c x hc hx=> ?_;have hi:i<n*S:=by have:=(afF.1 hc).1;omega
 have hx2:(madeCells z<|n*S)[i]? =some x:=by simpa using hx
 simp only[madeCells,Array.getElem?_map,Array.getElem?_range,hi,agL,afV,afD]at hx2;have hmod:i%S<S:=Nat.mod_lt _ hS;have hq:i/S<n:=by rw[Nat.div_lt_iff_lt_mul hS];exact hi
 have hrow:=nc (S:=S) (rows:=replicate n<|z.toList.map AV.v) (i:=i/S) (row:=z.toList.map AV.v) (λr hr=>by rw[(List.mem_replicate.1 hr).2];exact hl) (by rw[age,if_pos hq]);have h3:(z.toList.map AV.v)[i%S]? =some c:=by rw[<-hrow,agp,if_pos hmod,agN,show i/S*S+i%S=i from by rw[Nat.mul_comm];exact Nat.div_add_mod i S];exact hc
 rw[afM]at h3;have hlt:i%S<z.size:=by omega
 rw[hz]at hx2;rw[getElem!_pos z (i%S) hlt]at hx2;rw[Array.getElem?_toList,agF hlt]at h3;simp only[afV,afD]at h3;subst h3;simp[Rep,hx2]
section
variable{P:Program}{n:Nat}{ops:Array Oper}{l:List Oper}{L:Loc}{ob:lXE}{kf:List Rec->Loc->lXE->Prop}{gu:Loc}
variable{dst:Option Nat}{ty:TypeId}{pos:String}{after:Array Edge}{guard:Option (Nat×Bool)}
section
variable{t e:TypeId}{S B:Nat}{zs:List Value}
theorem wH{len:Nat}{ps:List (Nat×Operand)}{avs:List (Nat×AV)}{xs:List (Operand×AV)}{rows:List lXF}(ht:slk P t=some (e,S,B))(hz:zer P e=some zs)(hp:EvP L ps avs xs)(hr:rowsOf S 0 avs=some rows)(hlen:avs.length=len)(hsmall:len*S<=2^24)(hmax:len<=maxLen)(hg:Gd ops L guard gu)(hn: ∀d,dst=some d->d<n)(kk:EvK P n ops l (cN L dst (.sr ob.length S 0 len) []) (ob++ [.row e S rows]) (λrecs=>kf (⟨dst,gu++cg xs,.sr ob.length S 0 len,[],.write⟩::recs))):EvK P n ops (⟨dst,.buildSlice t len ps.toArray,ty,pos,after,guard⟩::l) L ob kf:=
 ki (o:=⟨dst,.buildSlice t len ps.toArray,ty,pos,after,guard⟩) [] xs (vB hp) hg hn (λm γ w a K Q hi hx hK=>by
  obtain⟨hu,inf,g1,g2,_⟩:=kY ht;obtain⟨z,hzz⟩: ∃z,inf.zero=some z:=by
   unfold zer at hz;rw[g1]at hz;cases hzz:inf.zero with
   |none=>simp[hzz]at hz
   |some z=>exact⟨z,rfl⟩
  have key: ∀cur:Array Value,cur.size=len*S-> ∃cur':Array Value,Instr.fill (λi=>some (i*S,S)) cur (ps.map λp=>(p.1,a.eval p.2))=some cur'/\au m γ rows.flatten cur'.toList:=by
   intro cur hcur;obtain⟨cur',k1,ys,k2,k3⟩:=Ay (a:=a) hp hx (k:=0) (cur:=cur) hr (by simp[hlen,hcur]);have hcur:cur'.toList=ys:=by simpa using k3
   exact⟨cur',k1,by rw[hcur];exact k2⟩
  obtain⟨cur',hrep,hrun⟩: ∃cur':Array Value,au m γ rows.flatten cur'.toList/\(execOp a.eval ⟨dst,.buildSlice t len ps.toArray,ty,pos,after,guard⟩).run P w= .ok (.value<|.slice (some ⟨w.heap.size,0,none⟩) len len) (w.alloc<|.cells cur' e):=by
   by_cases h0:len*S=0
   ·obtain⟨cur',k1,k2⟩:=key #[] (by simp[h0]);refine⟨cur',k2,?_⟩;have hb:(Instr.buildSlice t len (ps.map λp=>(p.1,a.eval p.2)).toArray).run P w= .ok (.slice (some ⟨w.heap.size,0,none⟩) len len) (w.alloc<|.cells cur' e):=by simp only[Instr.buildSlice,Sem.run_bind,run_underlying hu,Result.andThen_ok,sizeOf,typeInfo,run_program,g1,Sem.run_pure,g2,gt_iff_lt,h0,agL];have he:Array.map (λx=>(default:Value)) (Array.range 0)= #[]:=Array.eq_empty_of_size_eq_zero oaf;simp[newRow,he,k1]
    simp only[execOp,ahc,Sem.run_bind,hb,Result.andThen_ok,Sem.run_pure]
   ·obtain⟨cur',k1,k2⟩:=key ((Array.range<|len*S).map (z.cells[·%z.cells.size]!)) oaf;refine⟨cur',k2,?_⟩;have hb:=run_buildSlice w t e len (ps.map λp=>(p.1,a.eval p.2)).toArray cur' inf z hu g1 hzz (by rw[g2];omega) (by rw[g2];exact h0) (by rw[g2];exact k1);simp only[execOp,ahc,Sem.run_bind,hb,Result.andThen_ok,Sem.run_pure]
  obtain⟨hl1,hl2⟩:=pw hr;have hcs:cur'.size=len*S:=by have:=aZ hrep;rw[iW hl2,hl1,hlen]at this;simpa using this
  obtain⟨k1,k2⟩:=n9 hi (.cells cur' e) len (.row e S rows) (.inr ⟨w.heap.size,len,cur',by simp[dT],CA.mS (heap_alloc_new w _),hcs,by omega,hmax,hl2,by rw[agd (by rw[ag1,hcs,hl1,hlen];exact afG _)];exact fK (fS hi _ _) hrep,λoff=>jD hi (afG _) off⟩);unfold Oper.wp;rw[hrun,Oper.upon_value];refine hK m _ _ _ k2 (fS hi _ _) k1 ?_;simp only[Rep];exact .inr ⟨w.heap.size,len,len,by simp[dT],by omega,afG _,by omega,.inl oaf⟩) kk
theorem Cc{x y:Operand}{kl kc:IntKind}{a c:Int}(ht:slk P t=some (e,S,B))(hz:zer P e=some zs)(hzl:zs.length=S)(hS:0<S)(hx:aX L x=some (.v<|.int kl a))(hy:aX L y=some (.v<|.int kc c))(h0:0<=a)(h1:a<=c)(hb:B*c.toNat<=281474976710656)(hmax:c.toNat<=maxLen)(hg:Gd ops L guard gu)(hn: ∀d,dst=some d->d<n)(kk:EvK P n ops l (cN L dst (.sr ob.length S 0 a.toNat) []) (ob++ [.row e S (replicate a.toNat<|zs.map .v)]) (λrecs=>kf<|⟨dst,gu++cg [(x,.v (.int kl a)),(y,.v (.int kc c))],.sr ob.length S 0 a.toNat,[],.write⟩::recs)):EvK P n ops (⟨dst,.makeSlice t x y,ty,pos,after,guard⟩::l) L ob kf:=
 ki (o:=⟨dst,.makeSlice t x y,ty,pos,after,guard⟩) [] [(x,.v (.int kl a)),(y,.v (.int kc c))] ⟨hx,hy,trivial⟩ hg hn (λm γ w ac K Q hi h hK=>by
  obtain⟨r1,r2,_⟩:=h;simp only[Rep]at r1 r2;obtain⟨hu,inf,g1,g2,g3⟩:=kY ht;obtain⟨z,hzz,hzc⟩: ∃z,inf.zero=some z/\z.cells.toList=zs:=by
   unfold zer at hz;rw[g1]at hz;cases hzz:inf.zero with
   |none=>simp[hzz]at hz
   |some z=>refine⟨z,rfl,?_⟩;simp[hzz]at hz;exact hz
  have hzs:z.cells.size=S:=by rw[<-hzl,<-hzc];simp
  have hbi:(inf.bytes:Int)*c<=281474976710656:=by
   rw[g3];have h2:((B*c.toNat:Nat):Int)<=281474976710656:=by omega
   rw[Int.natCast_mul,Int.toNat_of_nonneg oaa]at h2;exact h2
  have hrun:=run_make (P:=P) w t e inf z hu g1 hzz kl kc a c h0 h1 hbi (by unfold maxLen at hmax;omega);rw[g2]at hrun;have hsz:(madeCells z.cells<|c.toNat*S).size=c.toNat*S:=size_madeCells _ _;have hle:a.toNat<=c.toNat:=by omega
  have hmade:(madeCells z.cells<|c.toNat*S).toList.take (a.toNat*S)=(madeCells z.cells<|a.toNat*S).toList:=by
   have hh:a.toNat*S<=c.toNat*S:=agu _ hle;apply af8;intro i;rw[agp];by_cases hi2:i<a.toNat*S
   ·simp[hi2,madeCells,show i<c.toNat*S by omega]
   ·simp[hi2,madeCells]
  obtain⟨k1,k2⟩:=n9 hi (.cells (madeCells z.cells<|c.toNat*S) e) c.toNat (.row e S<|replicate a.toNat<|zs.map .v) (.inr ⟨w.heap.size,c.toNat,_,by simp[dT],CA.mS (heap_alloc_new w _),hsz,by simpa using hle,hmax,λr hr=>by rw[(List.mem_replicate.1 hr).2];simpa using hzl,by rw[ag5,hmade,<-hzc];exact Cb hzs hS _ _ rfl,λoff=>jD hi (afG _) off⟩);refine iX (v:= .slice (some ⟨w.heap.size,0,none⟩) a.toNat c.toNat) (w':=w.alloc<|.cells (madeCells z.cells<|c.toNat*S) e) ?_ (hK m _ _ _ k2 (fS hi _ _) k1 ?_)
  ·simp[execOp,r1,r2,hrun]
  ·simp only[Rep];exact .inr ⟨w.heap.size,c.toNat,c.toNat,by simp[dT],by omega,hle,by omega,.inl oaf⟩) kk
end
theorem M4{x:Operand}{lo hi mo:Option Operand}{t e:TypeId}{S B p len:Nat}{av:AV}{xl xh xm:List (Operand×AV)}(ht:slk P t=some (e,S,B))(hx:aX L x=some av)(hlen:sy av=some len)(hl:Bd L 0 lo p xl)(hh:Bd L 0 hi p xh)(hm:Bd L 0 mo p xm)(hs1:(∃h,hi=some h)/\ ∃h,mo=some h)(h1:p<=len)(hg:Gd ops L guard gu)(hn: ∀d,dst=some d->d<n)(kk:EvK P n ops l (cN L dst (.sr ob.length S 0 0) []) (ob++ [.row e S []]) (λrecs=>kf<|⟨dst,gu++cg (xl++(xh++(xm++ [(x,av)]))),.sr ob.length S 0 0,[],.write⟩::recs)):EvK P n ops (⟨dst,.slice t x lo hi mo,ty,pos,after,guard⟩::l) L ob kf:=
 ki (o:=⟨dst,.slice t x lo hi mo,ty,pos,after,guard⟩) [] (xl++(xh++(xm++ [(x,av)]))) (jL hl<|jL hh<|jL hm ⟨hx,trivial⟩) hg hn (λm γ w a K Q hi2 h hK=>by
  obtain⟨k1,h⟩:=jM hl h;obtain⟨k2,h⟩:=jM hh h;obtain⟨k3,h⟩:=jM hm h;have h5:=h.1;obtain⟨⟨hi',rfl⟩,⟨mo',rfl⟩⟩:=hs1;obtain⟨ad,cap,e1,e2⟩: ∃ad cap,a.eval x= .slice ad len cap/\len<=cap:=by
   cases av with
   |sl S' rows=>simp only[sy,afD]at hlen;simp only[Rep]at h5;obtain⟨ad,ln,cap,e1,e2,e3,_⟩:=h5;subst hlen;subst e2;exact⟨ad,cap,e1,e3⟩
   |sr o S' lo' len'=>
    simp only[sy,afD]at hlen;subst hlen;simp only[Rep]at h5;rcases h5 with⟨_,⟨ad,e⟩,_,e2⟩|⟨b,C,cap,_,_,q,_,(e|⟨e0,_,ad,e⟩)⟩
    ·exact⟨ad,0,by rw[e,e2],by omega⟩
    ·exact⟨_,cap,e,q⟩
    ·exact⟨ad,cap,by rw[e0];exact e,q⟩
   |v y=>
    simp only[Rep]at h5;cases y with
    |slice ad ln cap=>
     simp only[sy]at hlen;cases hb:Nat.ble ln cap with
     |false=>simp[hb]at hlen
     |true=>simp only[hb,afN,afD]at hlen;subst hlen;exact⟨ad,cap,h5,nbl hb⟩
    |_=>simp[sy]at hlen
   |_=>simp[sy]at hlen
  have hr:=kZ (P:=P) ht w ad len cap p p p (lo.map a.eval) (some<|a.eval hi') (some<|a.eval mo') (by
   rcases k1 with⟨rfl,rfl⟩|⟨o,q',rfl,hq⟩
   ·exact .inl ⟨rfl,rfl⟩
   ·exact .inr ⟨q',by simp[hq]⟩) (by
   rcases k2 with⟨h,_⟩|⟨o,q',h,hq⟩
   ·cases h
   ·cases h;exact .inr ⟨q',by rw[hq]⟩) (by
   rcases k3 with⟨h,_⟩|⟨o,q',h,hq⟩
   ·cases h
   ·cases h;exact .inr ⟨q',by rw[hq]⟩) (afG _) (afG _) oaa
  obtain⟨i1,i2,i3⟩:=tQ hi2 e S;refine iX (v:= .slice ad 0 0) (w':=w) ?_ (hK m _ w _ i2 i3 i1 ?_)
  ·simp only[execOp,e1,afV,Sem.run_bind,hr,Result.andThen_ok,Sem.run_pure,agL,Nat.sub_self]
  ·simp[Rep]) kk
end
open Go.MapKept
def ll(d:TypeDesc)(k:Value):List Value->Option (Option Nat)
 |[]=>some none
 |q::qs=>match Instr.sameNow d k q with
  |some true=>some (some 0)
  |some false=>match ll d k qs with
   |some (some i)=>some (some<|i+1)
   |r=>r
  |none=>none
def mj{d:TypeDesc}{k:Value}: ∀{es:List MapEntry}{r:Option Nat}(i:Nat),ll d k (es.map (·.key))=some r->Instr.findNow d k es i=some (r.bind λj=>(es[j]?).map λe=>(i+j,e.val))/\(∀j,r=some j-> ∃e,es[j]? =some e/\Instr.sameNow d k e.key=some true)
 |[],r,i,h=>by grind[ll,Instr.findNow]
 |e::es,r,i,h=>by
  simp only[afZ,ll]at h;cases hs:Instr.sameNow d k e.key with
  |none=>simp[hs]at h
  |some b=>
   cases b with
   |true=>grind[Instr.findNow]
   |false=>
    simp only[hs]at h;cases hk:ll d k (es.map (·.key))with
    |none=>simp[hk]at h
    |some q=>
     obtain⟨h1,h2⟩:=mj (i+1) hk;cases q with
     |none=>grind[Instr.findNow]
     |some q=>grind[Instr.findNow]
def wI{d:TypeDesc}{a b:Value}(h:Instr.sameNow d a b=some true)(ha:IsKey d a)(hb:IsKey d b):a=b:=by grind[sameNow_of_keys]
def fC:TypeDesc->Value->Bool
 | .int k,.int k' _=>decide (k=k')
 | .string,.string _=>true
 | .bool,.bool _=>true
 |_,_=>false
def eK{d:TypeDesc}{v:Value}(h:fC d v=true):IsKey d v:=by cases d<;>cases v<;>simp_all[fC,IsKey]
section
variable{P:Program}{n:Nat}{ops:Array Oper}{l:List Oper}{L:Loc}{ob:lXE}{kf:List Rec->Loc->lXE->Prop}{gu:Loc}
variable{dst:Option Nat}{ty:TypeId}{pos:String}{after:Array Edge}{guard:Option (Nat×Bool)}
theorem G8{t:TypeId}(hg:Gd ops L guard gu)(hn: ∀d,dst=some d->d<n)(kk:EvK P n ops l (cN L dst (.mp ob.length) []) (ob++ [.mp [] []]) (λrecs=>kf (⟨dst,gu++cg [],.mp ob.length,[],.write⟩::recs))):EvK P n ops (⟨dst,.makeMap t none,ty,pos,after,guard⟩::l) L ob kf:=
 ki (o:=⟨dst,.makeMap t none,ty,pos,after,guard⟩) [] [] trivial hg hn (λm γ w a K Q hi _ hK=>by
  obtain⟨k1,k2⟩:=n9 hi (.map #[] 0) 0 (.mp [] []) ⟨w.heap.size,#[],0,by simp[dT],heap_alloc_new w _,rfl,by simp[au],λoff=>jD hi (afG _) off⟩;refine iX (v:= .map<|some w.heap.size) (w':=w.alloc<|.map #[] 0) ?_ (hK m _ _ _ k2 (fS hi _ _) k1 ?_)
  ·simp[execOp,Instr.makeMap]
  simp_all[Rep,dT]) kk
def G9(keys:List Value)(vals:lXF)(k:Value)(v:AV):Option Nat->Ob
 |some i=> .mp keys (vals.set i v)
 |none=> .mp (keys++ [k]) (vals++ [v])
def JT(es:Array MapEntry)(clock:Nat)(k v:Value):Option Nat->Obj
 |some j=> .map (es.modify j λe=>{e with key:=k,val:=v}) clock
 |none=> .map (es.push {key:=k,val:=v,born:=clock}) (clock+1)
theorem ZP{t kt vt:TypeId}{d:TypeDesc}{w:World}{r:Nat}{es:Array MapEntry}{clock:Nat}{k v:Value}{i:Option Nat}(ht:P.underlying t=some (.map kt vt))(hd:P.underlying kt=some d)(hb:w.heap[r]? =some (.map es clock))(hk:fC d k=true)(hks: ∀q∈es.toList.map (·.key),fC d q=true)(hf:ll d k (es.toList.map (·.key))=some i):(Instr.mapUpdate t (.map<|some r) k v).run P w= .ok () {w with heap:=w.heap.setIfInBounds r (JT es clock k v i)}:=by
 obtain⟨h1,h2⟩:=mj 0 hf;have hfk:=run_findKey (P:=P) (w:=w) hd h1;have hck:=run_checkKey (P:=P) (w:=w) hd (eK hk) false 9999;cases i with
 |none=>simp only[Option.bind_none]at hfk;simp[Instr.mapUpdate,run_underlying ht,Go.MapKept.run_getObj_map hb,hck,hfk,Go.MapKept.run_setObj_map _ hb,JT]
 |some j=>
  obtain⟨e,g1,g2⟩:=h2 j rfl;have hek:e.key=k:=(wI g2 (eK hk)<|eK<|hks _<|agl.2 ⟨e,agm g1,rfl⟩).symm;simp only[Option.bind_some,g1,afV,agR]at hfk;have g1':es[j]? =some e:=by simpa using g1
  have hst:=run_keyThatStays (P:=P) (w:=w) (eK hk);simp[Instr.mapUpdate,run_underlying ht,Go.MapKept.run_getObj_map hb,hck,hfk,Go.MapKept.run_setObj_map _ hb,g1',hek,hst,JT]
def ER(P:Program)(t:TypeId):Option (TypeId×TypeId×TypeDesc):=match P.underlying t with
 |some (.map kt vt)=>match P.underlying kt with
  |some d=>some (kt,vt,d)
  |none=>none
 |_=>none
theorem AB{t kt vt:TypeId}{d:TypeDesc}(h:ER P t=some (kt,vt,d)):P.underlying t=some (.map kt vt)/\P.underlying kt=some d:=by grind[ER]
theorem ES(es:Array MapEntry)(j:Nat)(k v:Value)(hk: ∀e,es.toList[j]? =some e->e.key=k):(es.modify j λe=>{e with key:=k,val:=v}).toList.map (·.key)=es.toList.map (·.key)/\(es.modify j λe=>{e with key:=k,val:=v}).toList.map (·.val)=(es.toList.map (·.val)).set j v:=by
 constructor
 ·grind[modify_keys]
 ·apply af8;grind
theorem AD{op:Op}{x y z:Operand}{t kt vt:TypeId}{d:TypeDesc}{o:Nat}{keys:List Value}{vals:lXF}{k:Value}{av:AV}{i:Option Nat}(hop:op= .mapUpdate t x y z\/op= .insert t x y z)(ht:ER P t=some (kt,vt,d))(hx:aX L x=some (.mp o))(hy:aX L y=some (.v k))(hz:aX L z=some av)(ho:ob[o]? =some (.mp keys vals))(hk:fC d k=true)(hks:keys.all (fC d)=true)(hf:ll d k keys=some i)(hg:Gd ops L guard gu)(hn: ∀d,dst=some d->d<n)(kk:EvK P n ops l (cN L dst .any []) (ob.set o<|G9 keys vals k av i) (λrecs=>kf<|⟨dst,gu++cg [(x,.mp o),(y,.v k),(z,av)],.any,[],.st o (.mp keys vals) (G9 keys vals k av i)⟩::recs)):EvK P n ops (⟨dst,op,ty,pos,after,guard⟩::l) L ob kf:=by
 refine JO (o:=⟨dst,op,ty,pos,after,guard⟩) ho [(x,.mp o),(y,.v k),(z,av)] ⟨hx,hy,hz,trivial⟩ hg hn (λob m γ w a K Q hX hi h hK=> ?_) kk;obtain⟨r1,r2,r3,_⟩:=h;simp only[Rep]at r1 r2;obtain⟨b,C,g1,e1⟩:=r1;obtain⟨hu,hd⟩:=AB ht;obtain⟨b',es,clock,q1,q2,q3,q4,q5⟩:=hi.obj o _ hX;rw[g1]at q1;cases q1;subst q3;have hks': ∀q∈es.toList.map (·.key),fC d q=true:=λq hq=>af2.1 hks q hq
 have hrun:=ZP (v:=a.eval z) hu hd q2 hk hks' hf;have hlt:b<w.heap.size:=(agT.1 q2).1;obtain⟨i1,i2,i3⟩:=vA hi (X':=G9 (es.toList.map (·.key)) vals k av i) hX oaf g1 q5 (w':={w with heap:=w.heap.setIfInBounds b (JT es clock k (a.eval z) i)})
  (λq hq=>(heap_set q2).2 q hq) oaf rfl rfl rfl [] (by
   cases i with
   |none=>refine⟨b,es.push {key:=k,val:=a.eval z,born:=clock},clock+1,g1,(heap_set q2).1,by simp,?_,q5⟩;simp only[Array.toList_push,ag7,afZ,agA];exact cu q4 (by simp only[au];exact⟨_,[],rfl,r3,rfl⟩)
   |some j=>
    obtain⟨_,h2⟩:=mj 0 hf;obtain⟨e,p1,p2⟩:=h2 j rfl;have hek: ∀e',es.toList[j]? =some e' ->e'.key=k:=by intro e' he';rw[p1]at he';cases he';exact(wI p2 (eK hk)<|eK<|hks' _<|agl.2 ⟨e,agm p1,rfl⟩).symm
    obtain⟨v1,v2⟩:=ES es j k (a.eval z) hek;exact⟨b,es.modify j λe=>{e with key:=k,val:=a.eval z},clock,g1,(heap_set q2).1,v1,by rw[v2];exact EC q4 j r3,q5⟩)
 refine pr (w':=_) ?_ (hK m γ _ undef i3 (Le.refl _ _ _) i2<|by simp[Rep]);rcases hop with rfl|rfl
 ·simp only[execOp,e1,r2,Sem.run_bind,hrun,Result.andThen_ok,Sem.run_pure]
 ·simp only[execOp,e1,r2,Sem.run_bind,hrun,Result.andThen_ok,Sem.run_pure]
def qF(vals:lXF)(z:AV):Option Nat->Option AV
 |some i=>vals[i]?
 |none=>some z
def okA(i:Option Nat):Bool:=match i with
 |some _=>true
 |none=>false
theorem AE{x y:Operand}{t kt vt:TypeId}{d:TypeDesc}{o:Nat}{keys:List Value}{vals:lXF}{k z:Value}{av:AV}{i:Option Nat}{ok:Bool}(ht:ER P t=some (kt,vt,d))(hz:ey P (zeroValue vt)=some z)(hx:aX L x=some (.mp o))(hy:aX L y=some (.v k))(ho:ob[o]? =some (.mp keys vals))(hk:fC d k=true)(hf:ll d k keys=some i)(hv:qF vals (ofV z) i=some av)(hg:Gd ops L guard gu)(hn: ∀d,dst=some d->d<n)(kk:EvK P n ops l (cN L dst (cond ok (.tu [av,.v (.bool<|okA i)]) av) []) ob (λrecs=>kf<|⟨dst,gu++cg [(x,.mp o),(y,.v k)],cond ok (.tu [av,.v (.bool<|okA i)]) av,[],.rd o (.mp keys vals)⟩::recs)):EvK P n ops (⟨dst,.lookup t x y ok,ty,pos,after,guard⟩::l) L ob kf:=by
 refine wj (o:=⟨dst,.lookup t x y ok,ty,pos,after,guard⟩) ho [(x,.mp o),(y,.v k)] ⟨hx,hy,trivial⟩ hg hn (λob m γ w a hX hi h=> ?_) kk;obtain⟨r1,r2,_⟩:=h;simp only[Rep]at r1 r2;obtain⟨b,C,g1,e1⟩:=r1;obtain⟨hu,hd⟩:=AB ht;obtain⟨b',es,clock,q1,q2,q3,q4,q5⟩:=hi.obj o _ hX;rw[g1]at q1;cases q1;subst q3;obtain⟨h1,h2⟩:=mj 0 hf;have hfk:=run_findKey (P:=P) (w:=w) hd h1;have hck:=run_checkKey (P:=P) (w:=w) hd (eK hk) es.isEmpty 9999;have hzz:=wE hz w;obtain⟨v,hv1,hv2⟩: ∃v,(Instr.lookup t (.map<|some b) k ok).run P w= .ok (if ok then .tuple #[v,.bool (okA i)]else v) w/\Rep m γ av v:=by
  cases i with
  |none=>simp only[qF,afD]at hv;subst hv;simp only[Option.bind_none]at hfk;exact⟨z,by cases ok<;>simp[Instr.lookup,run_underlying hu,Go.MapKept.run_getObj_map q2,hck,hfk,hzz,okA],JS z⟩
  |some j=>simp only[qF]at hv;obtain⟨e,p1,p2⟩:=h2 j rfl;obtain⟨u,hu2,hr2⟩:=bX q4 j av hv;rw[afM,p1]at hu2;simp only[afV,afD]at hu2;subst hu2;simp only[Option.bind_some,p1,afV,agR]at hfk;exact⟨e.val,by cases ok<;>simp[Instr.lookup,run_underlying hu,Go.MapKept.run_getObj_map q2,hck,hfk,okA],hr2⟩
 refine⟨if ok then .tuple #[v,.bool (okA i)]else v,by simp only[execOp,e1,r2,Sem.run_bind,hv1,Result.andThen_ok,Sem.run_pure],?_⟩;cases ok with
 |true=>simp only[afN,agL,Rep,au];exact⟨_,rfl,v,[.bool (okA i)],rfl,hv2,_,[],rfl,rfl,rfl⟩
 |false=>simpa using hv2
end
section
variable{P:Program}{n:Nat}{ops:Array Oper}{l:List Oper}{L:Loc}{ob:lXE}{kf:List Rec->Loc->lXE->Prop}{gu:Loc}
variable{dst:Option Nat}{ty:TypeId}{pos:String}{after:Array Edge}{guard:Option (Nat×Bool)}
end
def bytesOf:List Value->Option lXA
 |[]=>some []
 | .int .u8 z::r=>match bytesOf r with
  |some zs=>some (z::zs)
  |none=>none
 |_::_=>none
theorem qG: ∀{vs:List Value}{zs:lXA},bytesOf vs=some zs->vs=zs.map (Value.int .u8)
 |[],zs,h=>by grind[bytesOf]
 |v::vs,zs,h=>by
  unfold bytesOf at h;split at h
  ·rename_i heq;cases heq
  ·rename_i z r heq;cases heq;cases hr:bytesOf vs with
   |none=>simp[hr]at h
   |some ys=>simp only[hr,afD]at h;subst h;rw[qG hr];rfl
  ·cases h
def cS(zs:lXA):ByteArray:=zs.foldl (λr n=>r.push<|UInt8.ofNat n.toNat) ByteArray.empty
def strT(P:Program)(src dst:TypeId):Bool:=match P.underlying src,P.underlying dst with
 |some (.slice e),some .string=>match P.underlying e with
  |some (.int .u8)=>true
  |_=>false
 |_,_=>false
def cp:List UInt8->List UInt8->Bool
 |[],[]=>true
 |a::x,b::y=>cond (Nat.beq a.toNat b.toNat) (cp x y) false
 |_,_=>false
theorem oh: ∀x y:List UInt8,cp x y=(x==y)
 |[],[]=>rfl
 |[],_::_=>rfl
 |_::_,[]=>rfl
 |a::x,b::y=>by
  simp only[cp,List.cons_beq_cons,oh x y];have:Nat.beq a.toNat b.toNat=(a==b):=by
   cases h:Nat.beq a.toNat b.toNat with
   |true=>grind[afJ,UInt8.toNat_inj]
   |false=>grind[agE]
  rw[this];cases a==b<;>simp
section
variable{P:Program}{n:Nat}{ops:Array Oper}{l:List Oper}{L:Loc}{ob:lXE}{kf:List Rec->Loc->lXE->Prop}{gu:Loc}
variable{dst:Option Nat}{ty:TypeId}{pos:String}{after:Array Edge}{guard:Option (Nat×Bool)}
theorem ac3{x:Operand}{s d:TypeId}{av:AV}{new:List lXF}{vs:List Value}{zs:lXA}(ht:strT P s d=true)(hx:aX L x=some av)(hns: ∀q,av≠ .v (.string q))(hs:yX ob 1 av=some new)(hp:gb new.flatten=some vs)(hb:bytesOf vs=some zs)(hone:eu new=true)(hg:Gd ops L guard gu)(hn: ∀d,dst=some d->d<n)(kk:EvK P n ops l (cN L dst (.v<|.string<|cS zs) []) ob (λrecs=>kf<|⟨dst,gu++cg [(x,av)],.v (.string<|cS zs),[],.read⟩::recs)):EvK P n ops (⟨dst,.convert s d x,ty,pos,after,guard⟩::l) L ob kf:=
 ZH (o:=⟨dst,.convert s d x,ty,pos,after,guard⟩) [(x,av)] ⟨hx,trivial⟩ hg hn (λm γ w a hi h=>by
  have h1:=h.1;have hu: ∃e,P.underlying s=some (.slice e)/\P.underlying d=some .string/\P.underlying e=some (.int .u8):=by grind[strT]
  obtain⟨e,u1,u2,u3⟩:=hu;have hst:yY P s av=true:=by simp_all[yY]
  obtain⟨news,k1,k2,k3⟩:=PF hi h1 hs hst hone;have hnv:news=zs.map (Value.int .u8):=by rw[iV hp]at k2;rw[jK k2,qG hb]
  subst hnv;refine⟨.string (cS zs),?_,by simp[Rep]⟩;have hlen:=k1.len w;have hc:=k1.cells;have hshape: ∃ad ln c,a.eval x= .slice ad ln c:=by
   cases av with
   |sl S rows=>grind[Rep]
   |sr o S lo len=>grind[Rep]
   |v y=>
    simp only[Rep]at h1;cases y with
    |slice ad ln c=>exact⟨_,_,_,h1⟩
    |string q=>exact absurd rfl (hns q)
    |_=>simp[yX]at hs
   |_=>simp[yX]at hs
  obtain⟨ad,ln,c,ex⟩:=hshape;rw[ex]at hlen hc;simp only[Builtin.lenOf,Sem.run_pure,Result.ok.injEq,and_true]at hlen;have key:(Conv.bytesToString<|.slice ad ln c).run P w= .ok (.string<|cS zs) w:=by
   cases ad with
   |none=>simp_all[Builtin.firstCells,Conv.bytesToString,cS]
   |some ad=>refine run_bytesToString w ad ln c zs ?_;grind[Builtin.firstCells]
  simp[execOp,convert,run_underlying u1,run_underlying u2,run_underlying u3,ex,key]) kk
theorem ET{op:BinOp}{x y:Operand}{t t':TypeId}{a b:ByteArray}{c:Bool}(hx:aX L x=some (.v<|.string a))(hy:aX L y=some (.v<|.string b))(hc:(op= .eql/\cp a.data.toList b.data.toList=c)\/(op= .neq/\(!cp a.data.toList b.data.toList)=c))(hg:Gd ops L guard gu)(hn: ∀d,dst=some d->d<n)(k:EvK P n ops l (cN L dst (.v<|.bool c) []) ob (λrecs=>kf<|⟨dst,gu++cg [(x,.v (.string a)),(y,.v (.string b))],.v (.bool c),[],.pure⟩::recs)):EvK P n ops (⟨dst,.binOp op t x y t',ty,pos,after,guard⟩::l) L ob kf:=MX hx hy hg hn (λw ρ h1 h2=>by rw[oh,<-ByteArray.toList_eq,<-ByteArray.toList_eq]at hc;rcases hc with⟨rfl,rfl⟩|⟨rfl,rfl⟩<;>simp[execOp,h1,h2,eqGuard,binOp,Op.stringOp]) k
theorem oV{m:Mem}{γ:Gam}{S b:Nat}: ∀{rows:List lXF}{off:Nat}{xs:List Value},(∀r∈rows,r.length=S)->au m γ rows.flatten xs->(∀i x,xs[i]? =some x->m ⟨b,off+i,none⟩=some x)->bM m γ S rows b off
 |[],off,xs,_,_,_=>by simp[bM]
 |r::rs,off,xs,hS,hr,hm=>by
  simp only[agw]at hr;have hrl:=hS r oaf;simp only[bM];refine⟨hrl,eF λi c hc=> ?_,oV (xs:=xs.drop S) (λq hq=>hS q<|af9 _ hq) ?_ λi x hx=> ?_⟩
  ·have hlt:=(afF.1 hc).1;obtain⟨x,hx,hrx⟩:=bX hr i c oay;exact⟨x,hm i x hx,hrx⟩
  ·grind[eG,List.drop_left]
  grind
end
def arK(P:Program)(t:TypeId):Option (Nat×TypeId×Nat):=match P.underlying t with
 |some (.array n e)=>match P.info? e with
  |some i=>some (n,e,i.size)
  |none=>none
 |_=>none
def qH{P:Program}{t e:TypeId}{len S:Nat}(h:arK P t=some (len,e,S)):P.underlying t=some (.array len e)/\ ∃i,P.info? e=some i/\i.size=S:=by grind[arK]
def fldA(P:Program)(t:TypeId):Option (List (Nat×Nat)×List Value):=match wx P t with
 |some r=>some r
 |none=>match arK P t,zer P t with
  |some (n,_,S),some zs=>some ((range n).map λi=>(i*S,S),zs)
  |_,_=>none
def AF{f g:Nat->Option (Nat×Nat)}(h: ∀i p,f i=some p->g i=some p): ∀(parts:List (Nat×Value))(cells r:Array Value),Instr.fill f cells parts=some r->Instr.fill g cells parts=some r
 |[],cells,r,e=>by simpa [Instr.fill]using e
 |(i,v)::rest,cells,r,e=>by
  simp only[Instr.fill]at e⊢;cases hf:f i with
  |none=>simp[hf]at e
  |some p=>
   obtain⟨off,size⟩:=p;rw[h i _ hf];simp only[hf]at e⊢;split at e
   ·cases e
   ·rename_i hc;rw[if_neg hc];exact AF h rest _ r e
section
variable{P:Program}{n:Nat}{ops:Array Oper}{l:List Oper}{L:Loc}{ob:lXE}{kf:List Rec->Loc->lXE->Prop}{gu:Loc}
variable{dst:Option Nat}{ty:TypeId}{pos:String}{after:Array Edge}{guard:Option (Nat×Bool)}
theorem M5{t:TypeId}{ps:List (Nat×Operand)}{avs:List (Nat×AV)}{xs:List (Operand×AV)}{pl:List (Nat×Nat)}{zs:List Value}{cells:lXF}(ht:fldA P t=some (pl,zs))(hp:EvP L ps avs xs)(hf:wv pl (zs.map .v) avs=some cells)(hg:Gd ops L guard gu)(hn: ∀d,dst=some d->d<n)(kk:EvK P n ops l (cN L dst (.ag cells) []) ob (λrecs=>kf (⟨dst,gu++cg xs,.ag cells,[],.pure⟩::recs))):EvK P n ops (⟨dst,.build t ps.toArray,ty,pos,after,guard⟩::l) L ob kf:=by
 unfold fldA at ht;split at ht
 ·rename_i r hr;simp only[afD]at ht;subst ht;exact PE hr hp hf hg hn kk
 ·split at ht
  ·rename_i len e S zs' hk hz;simp only[afD,afW]at ht;obtain⟨rfl,rfl⟩:=ht;obtain⟨hu,ie,hie,hS⟩:=qH hk;subst hS;refine cK (o:=⟨dst,.build t ps.toArray,ty,pos,after,guard⟩) xs (vB hp) hg hn (λm γ w a _ hr=> ?_) kk;unfold zer at hz;split at hz
   ·rename_i it hi;cases hz0:it.zero with
    |none=>simp[hz0]at hz
    |some z=>
     simp only[hz0,afV,afD]at hz;subst hz;obtain⟨cur',k1,k2⟩:=Ax (a:=a) hp hr (cur:=z.cells) (eU _) hf;have k3:=AF (g:=λi=>some (i*ie.size,ie.size)) (λi p h=>by
      simp only[List.getElem?_toArray,afM]at h;cases hr:(range len)[i]? with
      |none=>simp[hr]at h
      |some j=>obtain⟨h1,h2⟩:=afF.1 hr;simp at h2;subst h2;simpa [hr]using h) _ _ _ k1
     have hb:P.built t (ps.map λp=>(p.1,a.eval p.2))=some cur':=by unfold Program.built;simp only[hi,hu,hz0,hie];exact k3
     have:=run_build w t (ps.map λp=>(p.1,a.eval p.2)).toArray cur' (by simpa using hb);refine⟨.agg cur',?_,by simp only[Rep];exact⟨cur'.toList,by simp,k2⟩⟩;simp only[execOp,ahc,Sem.run_bind,this,Result.andThen_ok,Sem.run_pure]
   ·cases hz
  ·cases ht
theorem tU{t e:TypeId}{len S:Nat}(h:arK P t=some (len,e,S))(w:World)(b off:Nat)(q:IntKind)(i:Nat)(hi:i<len):(Instr.indexAt t (.pointer<|some ⟨b,off,none⟩)<|.int q i).run P w= .ok (.pointer<|some ⟨b,off+i*S,none⟩) w:=by
 obtain⟨hu,inf,h1,h2⟩:=qH h;have hc:(0:Int)<=(i:Int)/\(i:Int)<(len:Int):=by omega
 simp only[Instr.indexAt,Instr.sureAddr,asIntOf,Sem.run_bind,Sem.run_pure,Result.andThen_ok,run_underlying hu];simp_all[sizeOf,typeInfo,fq]
section
variable{x i:Operand}{t e:TypeId}
theorem y9{len S p off z:Nat}{q:IntKind}(ht:arK P t=some (len,e,S))(hx:aX L x=some (.pt p off))(hi:aX L i=some (.v<|.int q<|.ofNat z))(hz:z<len)(hg:Gd ops L guard gu)(hn: ∀d,dst=some d->d<n)(kk:EvK P n ops l (cN L dst (.pt p<|off+z*S) []) ob (λrecs=>kf<|⟨dst,gu++cg [(x,.pt p off),(i,.v (.int q<|.ofNat z))],.pt p (off+z*S),[],.pure⟩::recs)):EvK P n ops (⟨dst,.indexAddr t x i,ty,pos,after,guard⟩::l) L ob kf:=cK (o:=⟨dst,.indexAddr t x i,ty,pos,after,guard⟩) [(x,.pt p off),(i,.v (.int q<|.ofNat z))] ⟨hx,hi,trivial⟩ hg hn (λm γ w a _ h=>by obtain⟨h1,h2,_⟩:=h;simp only[Rep]at h1 h2;obtain⟨b,C,g1,g2⟩:=h1;refine⟨.pointer (some ⟨b,off+z*S,none⟩),?_,by grind[Rep]⟩;grind[tU,execOp,Sem.run_bind,Result.andThen_ok,Sem.run_pure]) kk
theorem z6{len S z:Nat}{cs:lXF}{q:IntKind}(ht:arK P t=some (len,e,S))(hx:aX L x=some (.pf cs))(hi:aX L i=some (.v<|.int q<|.ofNat z))(hz:z<len)(hg:Gd ops L guard gu)(hn: ∀d,dst=some d->d<n)(kk:EvK P n ops l (cN L dst (.pf<|cs.drop<|z*S) []) ob (λrecs=>kf<|⟨dst,gu++cg [(x,.pf cs),(i,.v (.int q<|.ofNat z))],.pf (cs.drop<|z*S),[],.pure⟩::recs)):EvK P n ops (⟨dst,.indexAddr t x i,ty,pos,after,guard⟩::l) L ob kf:=cK (o:=⟨dst,.indexAddr t x i,ty,pos,after,guard⟩) [(x,.pf cs),(i,.v (.int q<|.ofNat z))] ⟨hx,hi,trivial⟩ hg hn (λm γ w a _ h=>by obtain⟨h1,h2,_⟩:=h;simp only[Rep]at h1 h2;obtain⟨b,off,g2,g1⟩:=h1;refine⟨.pointer (some ⟨b,off+z*S,none⟩),?_,by grind[Rep,fv]⟩;grind[tU,execOp,Sem.run_bind,Result.andThen_ok,Sem.run_pure]) kk
theorem wJ{len S S' z:Nat}{cs:lXF}{g:Bool}{q:IntKind}{r:AV}(ht:arK P t=some (len,e,S'))(he:tyk P e=some (g,S))(hx:aX L x=some (.ag cs))(hi:aX L i=some (.v<|.int q<|.ofNat z))(hz:z<len)(hr:(g=true/\z*S+S<=cs.length/\r= .ag ((cs.drop<|z*S).take S))\/(g=false/\cs[z*S]? =some r))(hg:Gd ops L guard gu)(hn: ∀d,dst=some d->d<n)(kk:EvK P n ops l (cN L dst r []) ob (λrecs=>kf<|⟨dst,gu++cg [(x,.ag cs),(i,.v (.int q<|.ofNat z))],r,[],.pure⟩::recs)):EvK P n ops (⟨dst,.index t x i,ty,pos,after,guard⟩::l) L ob kf:=
 cK (o:=⟨dst,.index t x i,ty,pos,after,guard⟩) [(x,.ag cs),(i,.v (.int q<|.ofNat z))] ⟨hx,hi,trivial⟩ hg hn (λm γ w a _ h=>by
  obtain⟨h1,h2,_⟩:=h;simp only[Rep]at h1 h2;obtain⟨vs,g2,g1⟩:=h1;obtain⟨hu,inf,k1,k2⟩:=qH ht;have hc:(0:Int)<=Int.ofNat z/\Int.ofNat z<(len:Int):=⟨Int.natCast_nonneg z,Int.ofNat_lt.2 hz⟩;have hsz:=run_sizeOf (w:=w) he;have hag:=su (w:=w) he;have hl:=aZ g1;have hidx:(Instr.index t (.agg vs.toArray)<|.int q<|Int.ofNat z).run P w=(part e vs.toArray<|z*S).run P w:=by simp_all[Instr.index,asIntOf,run_underlying]
  have hpart: ∃y,(part e vs.toArray<|z*S).run P w= .ok y w/\Rep m γ r y:=by
   rcases hr with⟨rfl,hle,rfl⟩|⟨rfl,hcell⟩
   ·simp_all[Rep,dG,eG,part]
   grind[bX,part,Sem.run_bind,Result.andThen_ok,Sem.run_pure]
  grind[execOp,Sem.run_bind,Result.andThen_ok,Sem.run_pure]) kk
end
end
open Classical in
noncomputable def nn(m:Mem)(w:World)(b:Nat):Mem where
 get a:=match m.get a with
  |some x=>some x
  |none=>if a.block=b/\a.spot=none then w.cell? a else none
 has a x h:=by simp[m.has a x h]
section
variable{m:Mem}{w:World}{b:Nat}{a:Addr}{x:Value}
theorem wK(h:m a=some x):nn m w b a=some x:=by show(match m.get a with|some x=>some x|none=>_)=some x;rw[show m.get a=some x from h]
theorem py(h:nn m w b a=some x):m a=some x\/(a.block=b/\w.cell? a=some x):=by have h':(match m.get a with|some x=>some x|none=>if a.block=b/\a.spot=none then w.cell? a else none)=some x:=h;grind
end
theorem AG{m:Mem}{w:World}{b off:Nat}(h:m ⟨b,off,none⟩=none):nn m w b ⟨b,off,none⟩=w.cell? ⟨b,off,none⟩:=by show(match m.get ⟨b,off,none⟩with|some x=>some x|none=>_)=_;simp_all
structure FrzM(m:Mem)(γ:Gam)(o:Nat)(X:Ob)(m':Mem):Prop where
 le:Le m γ [] m' γ
 row: ∀T S rows,X= .row T S rows->(γ o=some none/\rows=[])\/ ∃b C,γ o=some (some (b,C))/\rows.length<=C/\bM m' γ S rows b 0
 box: ∀Tb cells,X= .box Tb cells-> ∃b,γ o=some (some (b,0))/\bD m' γ cells b 0
def iH{m:Mem}{γ:Gam}{ob:lXE}{w:World}(hi:Inv m γ ob w){o:Nat}{X:Ob}(ho:ob[o]? =some X)(hX:(∃T S rows,X= .row T S rows)\/ ∃Tb cells,X= .box Tb cells):∃m',FrzM m γ o X m'/\Inv m' γ (ob.set o .dead) w/\Trans m γ w m' γ w:=by
 have hob:=hi.obj o X ho;have key: ∀(b C:Nat),γ o=some (some (b,C))->(∀off,m ⟨b,off,none⟩=none)->X≠ .dead->Le m γ [] (nn m w b) γ/\Inv (nn m w b) γ (ob.set o .dead) w/\Trans m γ w (nn m w b) γ w:=by
  intro b C hg hm hne;have hle:Le m γ [] (nn m w b) γ:=⟨λa x h=>wK h,λ_ _ h _=>h⟩;have hi':=qC hi o;refine⟨hle,⟨λa x h=> ?_,λq Y hY=> ?_,hi'.sep,hi'.dom,hi'.len,hi'.tab⟩,⟨λa x h=>wK h,λa x h=> ?_,λ_ _ h=>h,rfl,rfl,rfl,afG _,λ_ _ _=>rfl⟩⟩
  ·rcases py h with h1|⟨_,h1⟩
   ·exact hi.mem a x h1
   ·exact h1
  ·by_cases hd:Y= .dead
   ·subst hd;trivial
   ·refine dU (hi'.obj q Y hY) hle (λ_ _ _=>rfl) λb' C' hg' off h=> ?_;have hl:=og ⟨Y,hY,hd⟩;have hbb:b' ≠b:=λe=>hl.2 (hi.sep q o b C' C hl.1 ⟨X,ho,hne⟩ (e▸hg') hg);cases hc:nn m w b ⟨b',off,none⟩with
    |none=>rfl
    |some x=>
     rcases py hc with h1|⟨h1,_⟩
     ·rw[h]at h1;cases h1
     ·exact absurd h1 hbb
  ·rcases py h with h1|⟨h1,_⟩
   ·exact .inl h1
   ·exact .inr (.inr ⟨o,C,by rw[h1];exact hg⟩)
 rcases hX with⟨T,S,rows,rfl⟩|⟨T,cells,rfl⟩
 ·rcases hob with⟨g1,g2⟩|⟨b,C,cs,g1,g2,g3,g4,g5,g6,g7,g8⟩
  ·exact⟨m,⟨⟨λ_ _ h=>h,λ_ _ h _=>h⟩,(λT' S' rows' e=>(by cases e;exact .inl ⟨g1,g2⟩)),(λ_ _ e=>oao)⟩,qC hi o,Trans.refl _ _ _⟩
  ·obtain⟨h1,h2,h3⟩:=key b C g1 g8 oaf;refine⟨_,⟨h1,λT' S' rows' e=> ?_,(λ_ _ e=>oao)⟩,h2,h3⟩;cases e;refine .inr ⟨b,C,g1,g4,oV g6 (dQ h1 _ _ (dj _) g7) λi x hx=> ?_⟩;rw[AG (g8 _),g2.cell,agR];rw[agp]at hx;split at hx
   ·simpa using hx
   ·cases hx
 ·obtain⟨b,cs,g1,g2,g3,g4⟩:=hob;obtain⟨h1,h2,h3⟩:=key b 0 g1 g4 oaf;refine⟨_,⟨h1,(λ_ _ _ e=>oao),λT' cells' e=> ?_⟩,h2,h3⟩;cases e;refine⟨b,g1,eF λi c hc=> ?_⟩;obtain⟨x,hx,hr⟩:=bX g3 i c hc;exact⟨x,by rw[AG (g4 _),(CA.mS g2).cell,agR];simpa using hx,fj h1 _ _ (AV.ei _) hr⟩
structure FzA(m:Mem)(γ:Gam)(obs:lXE)(K j:Nat)(m':Mem):Prop where
 le:Le m γ [] m' γ
 row: ∀(o T S:Nat)(rows:List lXF),K<=o->o<K+j->obs[o]? =some (.row T S rows)->(γ o=some none/\rows=[])\/ ∃b C,γ o=some (some (b,C))/\rows.length<=C/\bM m' γ S rows b 0
 box: ∀(o:Nat)(Tb:TypeId)(cells:lXF),K<=o->o<K+j->obs[o]? =some (.box Tb cells)-> ∃b,γ o=some (some (b,0))/\bD m' γ cells b 0
def np(K:Nat)(obs:lXE):Nat->lXE
 |0=>obs
 |j+1=>(np K obs j).set (K+j) .dead
theorem M6(K:Nat)(obs:lXE): ∀j,(np K obs j).length=obs.length
 |0=>rfl
 |j+1=>by rw[np,af3,M6 K obs j]
theorem sC(K:Nat)(obs:lXE): ∀(j i:Nat),(i<K\/K+j<=i)->(np K obs j)[i]? =obs[i]?
 |0,i,_=>rfl
 |j+1,i,h=>by rw[np,af1 oaa,sC K obs j i oaa]
def wL{K:Nat}{obs ob:lXE}(h:obs.take K=ob)(j:Nat): ∃xs,np K obs j=ob++xs:=by
 refine⟨(np K obs j).drop K,?_⟩;conv=>lhs;rw[<-ags K (np K obs j)]
 congr 1;rw[<-h];apply af8;grind[sC]
def kO{m:Mem}{γ:Gam}{obs:lXE}{w:World}(hi:Inv m γ obs w)(K:Nat): ∀j,∃m',FzA m γ obs K j m'/\Inv m' γ (np K obs j) w/\Trans m γ w m' γ w
 |0=>⟨m,⟨⟨λ_ _ h=>h,λ_ _ h _=>h⟩,λo T S rows h1 h2=>by omega,λo Tb cells h1 h2=>by omega⟩,hi,Trans.refl _ _ _⟩
 |j+1=>by
  obtain⟨m1,h1,h2,h3⟩:=kO hi K j;have hget:=sC K obs j (K+j) (.inr<|afG _);have skip:(∀X,obs[K+j]? =some X->(∀T S rows,X≠ .row T S rows)/\ ∀Tb cells,X≠ .box Tb cells)-> ∃m',FzA m γ obs K (j+1) m'/\Inv m' γ (np K obs<|j+1) w/\Trans m γ w m' γ w:=λhX=>
   ⟨m1,⟨h1.le,λo T S rows a b c=>by
    by_cases e:o=K+j
    ·subst e;exact absurd rfl ((hX _ c).1 T S rows)
    ·exact h1.row o T S rows a oaa c,λo Tb cells a b c=>by
    by_cases e:o=K+j
    ·subst e;exact absurd rfl ((hX _ c).2 Tb cells)
    ·exact h1.box o Tb cells a oaa c⟩,qC h2 _,h3⟩
  have go: ∀X,obs[K+j]? =some X->((∃T S rows,X= .row T S rows)\/ ∃Tb cells,X= .box Tb cells)-> ∃m',FzA m γ obs K (j+1) m'/\Inv m' γ (np K obs<|j+1) w/\Trans m γ w m' γ w:=by
   intro X hX hk;obtain⟨m2,k1,k2,k3⟩:=iH h2 (hget.trans hX) hk;refine⟨m2,⟨⟨λa x h=>k1.le.mem a x (h1.le.mem a x h),λo g hg _=>hg⟩,λo T S rows a b c=> ?_,λo Tb cells a b c=> ?_⟩,k2,h3.trans k3⟩
   ·by_cases e:o=K+j
    ·subst e;rw[hX]at c;cases c;exact k1.row T S rows rfl
    ·rcases h1.row o T S rows a oaa c with q|⟨b',C,q1,q2,q3⟩
     ·exact .inl q
     ·exact .inr ⟨b',C,q1,q2,lW k1.le S rows b' 0 (ju _) q3⟩
   ·by_cases e:o=K+j
    ·subst e;rw[hX]at c;cases c;exact k1.box Tb cells rfl
    ·obtain⟨b',q1,q2⟩:=h1.box o Tb cells a oaa c;exact⟨b',q1,kh k1.le cells b' 0 (dj _) q2⟩
  cases hX:obs[K+j]? with
  |none=>exact skip λX h=>by rw[hX]at h;cases h
  |some X=>
   cases X with
   |row T S rows=>exact go _ hX (.inl ⟨T,S,rows,rfl⟩)
   |box T cells=>exact go _ hX (.inr ⟨T,cells,rfl⟩)
   |dead=>exact skip λX h=>by rw[hX]at h;cases h;exact⟨by simp,by simp⟩
   |mp keys vals=>exact skip λX h=>by rw[hX]at h;cases h;exact⟨by simp,by simp⟩
   |lp a b c d=>exact skip λX h=>by rw[hX]at h;cases h;exact⟨by simp,by simp⟩
def iY{α β:Type}(g:α->Option β):List α->Option (List β)
 |[]=>some []
 |c::cs=>match g c,iY g cs with
  |some d,some ds=>some (d::ds)
  |_,_=>none
def jP(obs:lXE)(K:Nat):Nat->AV->Option AV
 |0,_=>none
 |k+1,av=>match av with
  | .any=>some .any
  | .v x=>some (.v x)
  | .sl S rows=>(iY (iY<|jP obs K k) rows).map (.sl S)
  | .ag cs=>(iY (jP obs K k) cs).map .ag
  | .tu cs=>(iY (jP obs K k) cs).map .tu
  | .pt o off=>cond (Nat.blt o K) none (match obs[o]? with
   |some (.box _ cells)=>(iY (jP obs K k)<|cells.drop off).map .pf
   |_=>none)
  | .pf cs=>(iY (jP obs K k) cs).map .pf
  | .sr o S lo len=>cond (Nat.blt o K) none (match obs[o]? with
   |some (.row _ S' rows)=>cond (Nat.beq S S' &&Nat.ble (lo+len) rows.length) ((iY (iY<|jP obs K k)<|(rows.drop lo).take len).map<|.sl S) none
   |_=>none)
  | .fn f fs cs=>match iY (jP obs K k) fs,iY (jP obs K k) cs with
   |some a,some b=>some (.fn f a b)
   |_,_=>none
  | .ifc t y=>(jP obs K k y).map (.ifc t)
  | .mp _=>none
  | .yl _=>none
  | .cl _ _=>none
section
variable{m:Mem}{γ:Gam}{g:AV->Option AV}
def GOk(m:Mem)(γ:Gam)(g:AV->Option AV):Prop:= ∀c c',g c=some c' -> ∀x,Rep m γ c x->Rep m γ c' x
theorem oi{α β:Type}{g:α->Option β}{c:α}{cs:List α}{r:List β}(h:iY g (c::cs)=some r): ∃d ds,g c=some d/\iY g cs=some ds/\r=d::ds:=by grind[iY]
theorem qI{α β:Type}{g:α->Option β}: ∀{cs:List α}{r:List β},iY g cs=some r->r.length=cs.length
 |[],r,h=>by cases h;rfl
 |c::cs,r,h=>by obtain⟨d,ds,_,h2,rfl⟩:=oi h;simp[qI h2]
theorem lr(hg:GOk m γ g): ∀{cs r:lXF}{xs:List Value},iY g cs=some r->au m γ cs xs->au m γ r xs
 |[],r,xs,h,hr=>by cases h;exact hr
 |c::cs,r,xs,h,hr=>by obtain⟨d,ds,h1,h2,rfl⟩:=oi h;simp only[au]at hr⊢;obtain⟨x,q,e,k1,k2⟩:=hr;exact⟨x,q,e,hg _ _ h1 x k1,lr hg h2 k2⟩
theorem ml(hg:GOk m γ g): ∀{cs r:lXF}{b off:Nat},iY g cs=some r->bD m γ cs b off->bD m γ r b off
 |[],r,b,off,h,hr=>by cases h;exact hr
 |c::cs,r,b,off,h,hr=>by obtain⟨d,ds,h1,h2,rfl⟩:=oi h;simp only[bD]at hr⊢;obtain⟨⟨x,k0,k1⟩,k2⟩:=hr;exact⟨⟨x,k0,hg _ _ h1 x k1⟩,ml hg h2 k2⟩
theorem sD(hg:GOk m γ g){S:Nat}: ∀{rows r:List lXF}{b off:Nat},iY (iY g) rows=some r->bM m γ S rows b off->bM m γ S r b off
 |[],r,b,off,h,hr=>by cases h;exact hr
 |c::cs,r,b,off,h,hr=>by obtain⟨d,ds,h1,h2,rfl⟩:=oi h;simp only[bM]at hr⊢;obtain⟨k0,k1,k2⟩:=hr;exact⟨(qI h1).trans k0,ml hg h1 k1,sD hg h2 k2⟩
end
theorem map_some{α β:Type}{o:Option α}{f:α->β}{r:β}(h:o.map f=some r): ∃a,o=some a/\r=f a:=by
 cases o with
 |none=>cases h
 |some a=>simp_all
def JU{m0 m:Mem}{γ:Gam}{obs:lXE}{K j:Nat}(hF:FzA m0 γ obs K j m)(hj:obs.length<=K+j): ∀k,GOk m γ (jP obs K k)
 |0=>λc c' h=>by cases h
 |k+1=>by
  have ih:=JU hF hj k;intro c c' h x hr;cases c with
  |any=>simp only[jP,afD]at h;subst h;exact hr
  |v y=>simp only[jP,afD]at h;subst h;exact hr
  |sl S rows=>
   obtain⟨rows',h1,rfl⟩:=map_some (show(iY (iY<|jP obs K k) rows).map (.sl S)=some c' from h);simp only[Rep]at hr⊢;obtain⟨a,len,cap,e1,e2,e3,e4⟩:=hr;refine⟨a,len,cap,e1,by rw[e2,qI h1],e3,?_⟩;rcases e4 with rfl|⟨b,off,e5,e6⟩
   ·cases h1;exact .inl rfl
   ·exact .inr ⟨b,off,e5,sD ih h1 e6⟩
  |ag cs=>obtain⟨cs',h1,rfl⟩:=map_some (show(iY (jP obs K k) cs).map .ag=some c' from h);simp only[Rep]at hr⊢;obtain⟨xs,e1,e2⟩:=hr;exact⟨xs,e1,lr ih h1 e2⟩
  |tu cs=>obtain⟨cs',h1,rfl⟩:=map_some (show(iY (jP obs K k) cs).map .tu=some c' from h);simp only[Rep]at hr⊢;obtain⟨xs,e1,e2⟩:=hr;exact⟨xs,e1,lr ih h1 e2⟩
  |pf cs=>obtain⟨cs',h1,rfl⟩:=map_some (show(iY (jP obs K k) cs).map .pf=some c' from h);simp only[Rep]at hr⊢;obtain⟨b,off,e1,e2⟩:=hr;exact⟨b,off,e1,ml ih h1 e2⟩
  |fn f fs cs=>
   simp only[jP]at h;split at h
   ·rename_i a b h1 h2;cases h;simp only[Rep]at hr⊢;obtain⟨xs,ys,e1,e2,e3⟩:=hr;exact⟨xs,ys,e1,lr ih h1 e2,lr ih h2 e3⟩
   ·cases h
  |ifc t y=>obtain⟨y',h1,rfl⟩:=map_some (show(jP obs K k y).map (.ifc t)=some c' from h);simp only[Rep]at hr⊢;obtain⟨z,e1,e2⟩:=hr;exact⟨z,e1,ih _ _ h1 z e2⟩
  |mp o=>cases h
  |yl o=>cases h
  |cl S rows=>cases h
  |pt o off=>
   simp only[jP]at h;cases hK:Nat.blt o K with
   |true=>rw[hK]at h;cases h
   |false=>
    rw[hK]at h;simp only[afY]at h;have hKo:K<=o:=by
     rcases Nat.lt_or_ge o K with q|q
     ·have:Nat.blt o K=true:=agt q;rw[hK]at this;cases this
     ·exact q
    split at h
    ·rename_i Tb cells ho;obtain⟨cs',h1,rfl⟩:=map_some h;have hlt:=(afF.1 ho).1;simp only[Rep]at hr⊢;obtain⟨b,C,g1,rfl⟩:=hr;obtain⟨b',q1,q2⟩:=hF.box o Tb cells hKo oaa ho;rw[g1]at q1;cases q1;have:=fv q2 off;rw[agR]at this;exact⟨b,off,rfl,ml ih h1 this⟩
    ·cases h
  |sr o S lo len=>
   simp only[jP]at h;cases hK:Nat.blt o K with
   |true=>rw[hK]at h;cases h
   |false=>
    rw[hK]at h;simp only[afY]at h;have hKo:K<=o:=by
     rcases Nat.lt_or_ge o K with q|q
     ·have:Nat.blt o K=true:=agt q;rw[hK]at this;cases this
     ·exact q
    split at h
    ·rename_i T S' rows ho;cases hc:Nat.beq S S' &&Nat.ble (lo+len) rows.length with
     |false=>rw[hc]at h;cases h
     |true=>
      rw[hc]at h;simp only[afv]at hc;have:=afJ hc.1;subst this;have hle:=nbl hc.2;obtain⟨rows',h1,rfl⟩:=map_some (show(iY (iY<|jP obs K k)<|(rows.drop lo).take len).map (.sl S)=some c' from h);have hlt:=(afF.1 ho).1;have hl:((rows.drop lo).take len).length=len:=by simp;omega
      have hl':rows'.length=len:=(qI h1).trans hl;simp only[Rep]at hr⊢;rcases hr with⟨_,⟨a,rfl⟩,rfl,rfl⟩|⟨b,C,cap,g1,g2,g3,g4,g5⟩
      ·exact⟨a,0,0,rfl,hl'.symm,afG _,.inl (agk hl')⟩
      ·rcases g5 with rfl|⟨rfl,_,a,rfl⟩
       ·refine⟨_,_,_,rfl,hl'.symm,g3,?_⟩;rcases hF.row o T S rows hKo oaa ho with⟨q1,_⟩|⟨b',C',q1,_,q3⟩
        ·rw[g1]at q1;cases q1
        ·rw[g1]at q1;cases q1;have:=jv q3 lo;rw[agR]at this;exact .inr ⟨b,lo*S,rfl,sD ih h1 (jw this len)⟩
       ·exact⟨_,_,_,rfl,hl'.symm,g3,.inl (agk hl')⟩
    ·cases h
def abB{P:Program}{f:FuncId}{args:lXF}{ob obs:lXE}{r r':AV}(h:aQ P f args ob [] r obs)(k:Nat)(hob:obs.take ob.length=ob)(hr:jP obs ob.length k r=some r')(hu:r'.und ob.length=true):aQ P f args ob [] r' ob:=by
 refine wD ⟨h.1,λm γ w vs hi hv=>(h.2 m γ w vs hi hv).mono ?_⟩ hu;rintro e w' ⟨m',γ',r0,o0,⟨rfl,rfl⟩,h2,h3,h4,h5⟩;obtain⟨m2,k1,k2,k3⟩:=kO h4 ob.length o0.length;refine⟨m2,γ',.ret r',_,⟨rfl,wL hob _⟩,?_,h3.trans k3,k2,h5⟩;cases e with
 |returned v=>exact JU k1 (Nat.le_add_left _ _) k _ _ hr v (fj k1.le _ _ (AV.ei _) h2)
 |panicked c=>exact h2.elim
 |outgrown=>exact h2.elim
def PN(P:Program)(s d:TypeId):Bool:=match P.underlying s,P.underlying d with
 |some (.pointer t),some .unsafePointer=>match P.info? t with
  |some j=> !Nat.beq j.size 0
  |none=>false
 |_,_=>false
def M7{P:Program}{s d:TypeId}(h:PN P s d=true): ∃t j,P.underlying s=some (.pointer t)/\P.underlying d=some .unsafePointer/\P.info? t=some j/\j.size≠0:=by
 unfold PN at h;split at h
 ·rename_i t h1 h2;split at h
  ·rename_i j h3;exact⟨t,j,h1,h2,h3,λe=>by rw[e]at h;cases h⟩
  ·cases h
 ·cases h
def wM(P:Program)(s d T:TypeId)(k off:Nat):Bool:=match P.underlying s,P.underlying d with
 |some .unsafePointer,some (.pointer u)=>match P.info? u with
  |some _=>liesAt P P.depth T (k/P.cellsOf T) off u 1
  |none=>false
 |_,_=>false
def EU{P:Program}{s d T:TypeId}{k off:Nat}(h:wM P s d T k off=true): ∃u j,P.underlying s=some .unsafePointer/\P.underlying d=some (.pointer u)/\P.info? u=some j/\liesAt P P.depth T (k/P.cellsOf T) off u 1=true:=by grind[wM]
def ptrT(P:Program)(t:TypeId):Bool:=match P.underlying t with
 |some (.pointer te)=>(P.info? te).isSome
 |_=>false
def Ha:List Value->Option (List UInt8)
 |[]=>some []
 | .int .u8 (.ofNat k)::r=>cond (Nat.blt k 256) (match Ha r with
  |some l=>some (UInt8.ofNat k::l)
  |none=>none) none
 |_=>none
theorem AH: ∀{vs:List Value}{l:List UInt8},Ha vs=some l->vs=l.map λx=>Value.int .u8 x.toNat
 |[],l,h=>by cases h;rfl
 |v::vs,l,h=>by
  unfold Ha at h;split at h
  ·rename_i heq;cases heq
  ·rename_i k r heq;cases heq;cases hk:Nat.blt k 256 with
   |false=>rw[hk]at h;cases h
   |true=>
    rw[hk]at h;have hlt:k<256:=nbl hk;simp only[afN]at h;split at h
    ·rename_i l2 h2;cases h;rw[afZ,<-AH h2];grind[UInt8.toNat_ofNat']
    ·cases h
  ·cases h
def wN(P:Program)(f:FuncId):Bool:=match P.funcs[f]? with
 |some fn=>fn.body.isNone&&(fn.name== "internal/abi.NoEscape" &&(Extern.findNext fn).isNone)
 |none=>false
theorem Hb{fn:Func}(h:fn.name= "internal/abi.NoEscape"):Extern.find fn=some Extern.AbiNoEscape.same:=by
 have h1:Extern.allGenericRows.lookup "internal/abi.NoEscape" =none:=by kernel_rfl
 have h2:Extern.allTypedRows.lookup "internal/abi.NoEscape" =none:=by kernel_rfl
 have h3:Extern.allRows.lookup "internal/abi.NoEscape" =some Extern.AbiNoEscape.same:=by kernel_rfl
 grind[Extern.find]
section
variable{P:Program}{n:Nat}{ops:Array Oper}{l:List Oper}{L:Loc}{ob:lXE}{kf:List Rec->Loc->lXE->Prop}{gu:Loc}
variable{dst:Option Nat}{ty:TypeId}{pos:String}{after:Array Edge}{guard:Option (Nat×Bool)}
theorem wO{w:World}{b:Nat}{cs:Array Value}{T:TypeId}{fr:Nat×Nat}(h:w.heap[b]? =some (.cells cs T fr)):w.shape? b=some (T,cs.size):=by simp[World.shape?,h]
section
variable{x:Operand}{s d Tb:TypeId}{o off:Nat}{cells:lXF}
theorem EV(ht:PN P s d=true)(hx:aX L x=some (.pt o off))(ho:ob[o]? =some (.box Tb cells))(hoff:off<cells.length)(hg:Gd ops L guard gu)(hn: ∀d,dst=some d->d<n)(kk:EvK P n ops l (cN L dst (.pt o off) []) ob (λrecs=>kf<|⟨dst,gu++cg [(x,.pt o off)],.pt o off,[],.rd o (.box Tb cells)⟩::recs)):EvK P n ops (⟨dst,.convert s d x,ty,pos,after,guard⟩::l) L ob kf:=wj (o:=⟨dst,.convert s d x,ty,pos,after,guard⟩) ho [(x,.pt o off)] ⟨hx,trivial⟩ hg hn (λob m γ w a ho hi h=>by obtain⟨t,j,u1,u2,u3,u4⟩:=M7 ht;have h1:=h.1;obtain⟨b,C,g1,e1⟩:=gm h1;obtain⟨b',cs,p1,p2,p3⟩:=BZ hi ho;rw[g1]at p1;cases p1;have hl:=aZ p3;refine⟨_,?_,h1⟩;have:=Lib.run_to_unsafe (P:=P) w ⟨b,off,none⟩ u1 u2 u3 u4 (wO p2) (by simp at hl;show off<cs.size;omega);grind[execOp,Sem.run_bind,Result.andThen_ok,Sem.run_pure]) kk
theorem z7(ht:wM P s d Tb cells.length off=true)(hx:aX L x=some (.pt o off))(ho:ob[o]? =some (.box Tb cells))(hg:Gd ops L guard gu)(hn: ∀d,dst=some d->d<n)(kk:EvK P n ops l (cN L dst (.pt o off) []) ob (λrecs=>kf<|⟨dst,gu++cg [(x,.pt o off)],.pt o off,[],.rd o (.box Tb cells)⟩::recs)):EvK P n ops (⟨dst,.convert s d x,ty,pos,after,guard⟩::l) L ob kf:=
 wj (o:=⟨dst,.convert s d x,ty,pos,after,guard⟩) ho [(x,.pt o off)] ⟨hx,trivial⟩ hg hn (λob m γ w a ho hi h=>by
  obtain⟨u,j,u1,u2,u3,u4⟩:=EU ht;have h1:=h.1;obtain⟨b,C,g1,e1⟩:=gm h1;obtain⟨b',cs,p1,p2,p3⟩:=BZ hi ho;rw[g1]at p1;cases p1;have hl:=aZ p3;have hl':cells.length=cs.size:=by simpa using hl.symm
  rw[hl']at u4;refine⟨_,?_,h1⟩;have:=Lib.run_from_unsafe (P:=P) w ⟨b,off,none⟩ u1 u2 u3 (wO p2) u4;grind[execOp,Sem.run_bind,Result.andThen_ok,Sem.run_pure]) kk
end
theorem M8{x y:Operand}{t t':TypeId}{o off:Nat}(ht:ptrT P t=true)(hx:aX L x=some (.pt o off))(hy:aX L y=some (.pt o off))(hg:Gd ops L guard gu)(hn: ∀d,dst=some d->d<n)(kk:EvK P n ops l (cN L dst (.v<|.bool false) []) ob (λrecs=>kf<|⟨dst,gu++cg [(x,.pt o off),(y,.pt o off)],.v (.bool false),[],.pure⟩::recs)):EvK P n ops (⟨dst,.binOp .neq t x y t',ty,pos,after,guard⟩::l) L ob kf:=
 cK (o:=⟨dst,.binOp .neq t x y t',ty,pos,after,guard⟩) [(x,.pt o off),(y,.pt o off)] ⟨hx,hy,trivial⟩ hg hn (λm γ w a _ h=>by
  obtain⟨h1,h2,_⟩:=h;obtain⟨b,C,g1,e1⟩:=gm h1;obtain⟨b',C',g2,e2⟩:=gm h2;rw[g1]at g2;cases g2;refine⟨.bool false,?_,by simp[Rep]⟩;unfold ptrT at ht;split at ht
  ·rename_i te hp;obtain⟨j,hj⟩:=Option.isSome_iff_exists.1 ht;simp_all[Lib.run_neq_ptr_same,execOp,eqGuard]
  ·cases ht) kk
theorem qJ{x:Operand}{o lo len:Nat}{ts:Array TypeId}(hx:aX L x=some (.sr o 1 lo len))(h0:0<len)(hg:Gd ops L guard gu)(hn: ∀d,dst=some d->d<n)(kk:EvK P n ops l (cN L dst (.pt o lo) []) ob (λrecs=>kf<|⟨dst,gu++cg [(x,.sr o 1 lo len)],.pt o lo,[],.pure⟩::recs)):EvK P n ops (⟨dst,.call ⟨.builtin .unsafeSliceData,#[x],ts⟩,ty,pos,after,guard⟩::l) L ob kf:=
 cK (o:=⟨dst,.call ⟨.builtin .unsafeSliceData,#[x],ts⟩,ty,pos,after,guard⟩) [(x,.sr o 1 lo len)] ⟨hx,trivial⟩ hg hn (λm γ w a _ h=>by
  have h1:=h.1;simp only[Rep]at h1;rcases h1 with⟨_,_,_,h⟩|⟨b,C,cap,g1,g2,g3,g4,(g5|⟨h,_⟩)⟩
  ·omega
  rotate_left
  ·omega
  refine⟨.pointer (some ⟨b,lo,none⟩),?_,by simp only[Rep];exact⟨b,C,g1,rfl⟩⟩;have:=Lib.run_unsafeSliceData_row (P:=P) w ts ty ⟨b,lo*1,none⟩ len cap oaa;rw[Nat.mul_one]at this;rw[Nat.mul_one]at g5;simp[execOp,resolve,invoke,builtin,g5,this]) kk
theorem mF{x y:Operand}{pt it e:TypeId}{o k:Nat}{rows:List lXF}{vs:List Value}{bs:List UInt8}(hp:P.underlying pt=some (.pointer e))(hc:P.cellsOf e=1)(hx:aX L x=some (.pt o 0))(hy:aX L y=some (.v<|.int .i64 k))(ho:ob[o]? =some (.row e 1 rows))(hk:k<=rows.length)(h0:0<k)(hv:gb (rows.take k).flatten=some vs)(hb:Ha vs=some bs)(hlen:Nat.beq bs.length k=true)(h63:k<=9223372036854775807)(hg:Gd ops L guard gu)(hn: ∀d,dst=some d->d<n)(kk:EvK P n ops l (cN L dst (.v<|.string ⟨bs.toArray⟩) []) (ob.set o .dead) (λrecs=>kf<|⟨dst,gu++cg [(x,.pt o 0),(y,.v (.int .i64 k))],.v (.string ⟨bs.toArray⟩),[],.st o (.row e 1 rows) .dead⟩::recs)):EvK P n ops (⟨dst,.call ⟨.builtin .unsafeString,#[x,y],#[pt,it]⟩,ty,pos,after,guard⟩::l) L ob kf:=
 JO (o:=⟨dst,.call ⟨.builtin .unsafeString,#[x,y],#[pt,it]⟩,ty,pos,after,guard⟩) ho [(x,.pt o 0),(y,.v (.int .i64 k))] ⟨hx,hy,trivial⟩ hg hn (λob m γ w a K Q ho hi h hK=>by
  obtain⟨h1,h2,_⟩:=h;obtain⟨b,C,g1,e1⟩:=gm h1;simp only[Rep]at h2;have hbl:=afJ hlen;rcases hi.obj o _ ho with⟨q1,_⟩|⟨b',C',cs,p1,p2,p3,p4,p5,p6,p7,p8⟩
  ·rw[g1]at q1;cases q1
  rw[g1]at p1;cases p1;have hcells: ∀j z,bs[j]? =some z->w.cell? ((⟨b,0,none⟩:Addr).add j)=some (.int .u8 z.toNat):=by
   intro j z hz;rw[fq,agR,p2.cell];have hr:=dG p7 (k*1);rw[oc p6 hk,iV hv]at hr;have hvs:=jK hr;rw[AH hb]at hvs;have hj:j<k:=by grind
   have hg2:((cs.toList.take<|rows.length*1).take<|k*1)[j]? =some (.int .u8 z.toNat):=by rw[hvs,afM,hz];rfl
   grind
  obtain⟨fr,hb1,_⟩:=p2;have hrun:=Lib.run_unsafeString_row (P:=P) w pt it ty e hp hc b cs.size (wO hb1) bs oay oaa oaa hcells;rw[hbl]at hrun;obtain⟨_,i2,i3⟩:=vA hi (X':= .dead) ho oaf g1 p8 (w':=w.freeze ⟨b,0,none⟩ k) (by grind[World.freeze]) (by unfold World.freeze;split<;>simp) oaM oaM oaM [] trivial;refine iX (v:= .string ⟨bs.toArray⟩) (w':=w.freeze ⟨b,0,none⟩ k) ?_ (hK m γ _ _ i3 (Le.refl _ _ _) i2<|by simp[Rep]);simp_all[execOp,resolve,invoke,builtin]) kk
theorem Hc{f:FuncId}{x y:Operand}{av:AV}{xs:List (Operand×AV)}{ts:Array TypeId}(hb:wN P f=true)(hx:aX L x=some (.fn (.func f) [] []))(ha:EvA L [y] [av] xs)(hg:Gd ops L guard gu)(hn: ∀d,dst=some d->d<n)(kk:EvK P n ops l (cN L dst av []) ob (λrecs=>kf<|⟨dst,gu++cg ((x,.fn (.func f) [] [])::xs),av,[],.pure⟩::recs)):EvK P n ops (⟨dst,.call ⟨.value x,#[y],ts⟩,ty,pos,after,guard⟩::l) L ob kf:=
 cK (o:=⟨dst,.call ⟨.value x,#[y],ts⟩,ty,pos,after,guard⟩) ((x,.fn (.func f) [] [])::xs) ⟨hx,jy ha⟩ hg hn (λm γ w a _ h=>by
  obtain⟨h1,h2⟩:=h;have hr:=jN (a:=a) ha h2;simp only[afZ,agA,au]at hr;obtain⟨z,r,e,hz,_⟩:=hr;simp only[List.cons.injEq]at e;obtain⟨rfl,_⟩:=e;simp only[Rep,au]at h1;obtain⟨us,vs,e1,rfl,rfl⟩:=h1;refine⟨a.eval y,?_,hz⟩;unfold wN at hb;split at hb
  ·rename_i fn hf;simp only[afv,agQ]at hb;obtain⟨b1,b2,b3⟩:=hb;have hnx:Extern.findNext fn=none:=by simpa using b3
   simp_all[run_callFunc_extern,Hb,Lib.run_noEscape,execOp,resolve,Deferred.ofValue,invoke]
  ·cases hb) kk
end
def frzT:List (Nat×Nat):=[(26,1),(26,2),(26,3),(26,4),(26,6),(26,7),(41,3),(46,2),(46,3),(49,2),(49,3),(49,7),(40,3),(40,4),(40,5),(51,2),(40,7),(49,9),(51,11),(51,10),(9,3),(92,2),(92,3),(111,1),(22,59),(22,19),(36,71),(36,91),(36,108),(36,65),(36,45),(36,48),(36,92),(36,99),(115,82),(22,52),(22,65),(36,102),(36,72),(35,34),(22,58),(38,31),(44,19),(78,10),(78,19)]
def frzF:lXC:=[]
inductive Dl where
 |cV
 |set (k:Nat) (X:Ob)
 |push (X:Ob)
 |wP (k:Nat) (X:Ob)
def Dl.app(ob:lXE):Dl->lXE
 | .cV=>ob
 | .set k X=>ob.set k X
 | .push X=>ob++ [X]
 | .wP k X=>ob.set k .dead++ [X]
def frzL(t d:Nat):List (Nat×Nat)->Bool
 |[]=>false
 |(a,b)::l=>cond (Nat.beq a t&&Nat.beq b d) true (frzL t d l)
def frzB(t:TypeId):Option Nat->Bool
 |some d=>frzL t d frzT
 |none=>false
abbrev Out:=AV×Kd×Dl×List (Operand×AV)
def Hd(ev:Operand->Option AV):List (Nat×Operand)->Option (List (Nat×AV)×List (Operand×AV))
 |[]=>some ([],[])
 |(i,x)::r=>match ev x with
  |some av=>match Hd ev r with
   |some (aS,xs)=>some ((i,av)::aS,(x,av)::xs)
   |none=>none
  |none=>none
def Cd(ev:Operand->Option AV):List Operand->Option (lXF×List (Operand×AV))
 |[]=>some ([],[])
 |x::r=>match ev x with
  |some av=>match Cd ev r with
   |some (aS,xs)=>some (av::aS,(x,av)::xs)
   |none=>none
  |none=>none
def om{L:Loc}: ∀{ps:List (Nat×Operand)}{aS:List (Nat×AV)}{xs:List (Operand×AV)},Hd (aX L) ps=some (aS,xs)->EvP L ps aS xs
 |[],aS,xs,h=>by simp only[Hd,afD,afW]at h;obtain⟨rfl,rfl⟩:=h;exact .nil
 |(i,x)::r,aS,xs,h=>by
  simp only[Hd]at h;cases hx:aX L x with
  |none=>simp[hx]at h
  |some av=>
   cases hr:Hd (aX L) r with
   |none=>simp[hx,hr]at h
   |some p=>obtain⟨bs,ys⟩:=p;simp only[hx,hr,afD,afW]at h;obtain⟨rfl,rfl⟩:=h;exact .cons hx (om hr)
def jE{L:Loc}: ∀{ps:List Operand}{aS:lXF}{xs:List (Operand×AV)},Cd (aX L) ps=some (aS,xs)->EvA L ps aS xs
 |[],aS,xs,h=>by simp only[Cd,afD,afW]at h;obtain⟨rfl,rfl⟩:=h;exact .nil
 |x::r,aS,xs,h=>by
  simp only[Cd]at h;cases hx:aX L x with
  |none=>simp[hx]at h
  |some av=>
   cases hr:Cd (aX L) r with
   |none=>simp[hx,hr]at h
   |some p=>obtain⟨bs,ys⟩:=p;simp only[hx,hr,afD,afW]at h;obtain⟨rfl,rfl⟩:=h;exact .cons hx (jE hr)
def bdE(ev:Operand->Option AV)(d:Nat):Option Operand->Option (Nat×List (Operand×AV))
 |none=>some (d,[])
 |some x=>match ev x with
  |some (.v<|.int q<|.ofNat k)=>some (k,[(x,.v (.int q<|.ofNat k))])
  |_=>none
def lu{L:Loc}{d:Nat}{x:Option Operand}{k:Nat}{xs:List (Operand×AV)}(h:bdE (aX L) d x=some (k,xs)):Bd L d x k xs:=by
 cases x with
 |none=>simp only[bdE,afD,afW]at h;obtain⟨rfl,rfl⟩:=h;exact .non
 |some x=>
  simp only[bdE]at h;split at h
  ·rename_i q j hx;simp only[afD,afW]at h;obtain⟨rfl,rfl⟩:=h;exact .num (z:= .ofNat j) hx (Int.natCast_nonneg j)
  ·cases h
def ji(P:Program)(ev:Operand->Option AV)(o:Oper)(_gs:Nat->Option Ob)(_N:Nat):Option Out:=
 match px o.op with
 |some xs=>cond (hU ev xs) (match ey P (execOp (lj ev) o)with
  |some (.value r)=>some (ofV r,.pure,.cV,xs.map (dI ev))
  |_=>none) none
 |none=>none
def strE(ev:Operand->Option AV)(op:BinOp)(x y:Operand)(_gs:Nat->Option Ob)(_N:Nat):Option Out:=
 match op,ev x,ev y with
 | .eql,some (.v<|.string a),some (.v<|.string b)=>some (.v (.bool<|cp a.data.toList b.data.toList),.pure,.cV,[(x,.v (.string a)),(y,.v (.string b))])
 | .neq,some (.v<|.string a),some (.v<|.string b)=>some (.v (.bool<|!cp a.data.toList b.data.toList),.pure,.cV,[(x,.v (.string a)),(y,.v (.string b))])
 |_,_,_=>none
section
variable(P:Program)(ev:Operand->Option AV)
section
variable(op:BinOp)(t:TypeId)(x y:Operand)
def Ce(_gs:Nat->Option Ob)(_N:Nat):Option Out:=
 match ev x,ev y with
 |some (.ag cs),some (.ag ds)=>match fkS P t,gb cs,gb ds with
  |some os,some xs,some ys=>match eqS os xs ys with
   |some b=>match op with
    | .eql=>some (.v (.bool b),.pure,.cV,[(x,.ag cs),(y,.ag ds)])
    | .neq=>some (.v (.bool<|!b),.pure,.cV,[(x,.ag cs),(y,.ag ds)])
    |_=>none
   |none=>none
  |_,_,_=>none
 |_,_=>none
def nnE(_gs:Nat->Option Ob)(_N:Nat):Option Out:=
 match ev x,ev y with
 |some av,some (.v z)=>match notNil [] av with
  |k+1=>cond (Nat.beq (mi z) (k+1)&&Nat.beq (AA P t) (k+1)) (match op with
   | .eql=>some (.v (.bool false),.pure,.cV,[(x,av),(y,.v z)])
   | .neq=>some (.v (.bool true),.pure,.cV,[(x,av),(y,.v z)])
   |_=>none) none
  |0=>none
 |_,_=>none
end
def JV(t:TypeId)(x:Operand)(gs:Nat->Option Ob)(_N:Nat):Option Out:=
 match ev x,tyk P t with
 |some (.pt o off),some (g,k)=>match gs o with
  |some (.box Tb cells)=>match g with
   |true=>cond (Nat.ble (off+k) cells.length) (some (.ag ((cells.drop off).take k),.rd o (.box Tb cells),.cV,[(x,.pt o off)])) none
   |false=>match cells[off]? with
    |some c=>some (c,.rd o (.box Tb cells),.cV,[(x,.pt o off)])
    |none=>none
  |some (.row E S rows)=>match rows[off/S]? with
   |some row=>match g with
    |true=>cond (Nat.ble (off%S+k) S) (some (.ag ((row.drop<|off%S).take k),.rd o (.row E S rows),.cV,[(x,.pt o off)])) none
    |false=>match row[off%S]? with
     |some c=>some (c,.rd o (.row E S rows),.cV,[(x,.pt o off)])
     |none=>none
   |none=>none
  |_=>none
 |some (.pf cs),some (g,k)=>match g with
  |true=>cond (Nat.ble k cs.length) (some (.ag (cs.take k),.pure,.cV,[(x,.pf cs)])) none
  |false=>match cs with
   |c::cs'=>some (c,.pure,.cV,[(x,.pf (c::cs'))])
   |[]=>none
 |_,_=>none
def Cf(t:TypeId)(p x:Operand)(gs:Nat->Option Ob)(_N:Nat):Option Out:=
 match ev p,ev x,tyk P t with
 |some (.pt o off),some av,some (_g,k)=>match fB av with
  |some cs=>cond (Nat.beq cs.length k) (match gs o with
   |some (.box Tb cells)=>cond (Nat.ble (off+k) cells.length) (some (.any,.st o (.box Tb cells) (.box Tb<|spl cells off cs),.set o (.box Tb<|spl cells off cs),[(p,.pt o off),(x,av)])) none
   |some (.row E S rows)=>match rows[off/S]? with
    |some row=>cond (Nat.ble (off%S+k) S) (some (.any,.st o (.row E S rows) (.row E S<|rows.set (off/S)<|eT row (off%S) cs),.set o (.row E S<|rows.set (off/S)<|eT row (off%S) cs),[(p,.pt o off),(x,av)])) none
    |none=>none
   |_=>none) none
  |none=>none
 |_,_,_=>none
def Cg(t:TypeId)(x:Operand)(lo hi mo:Option Operand)(_gs:Nat->Option Ob)(N:Nat):Option Out:=
 match slk P t,ev x with
 |some (e,S,_),some av=>match sy av with
  |some len=>match bdE ev 0 lo,bdE ev len hi,bdE ev 0 mo with
   |some (p,xl),some (q,xh),some (mx,xm)=>
    cond (Nat.ble p q&&Nat.ble q len) (match mo with
    |none=>match av with
     | .sl S' rows=>cond (Nat.beq S' S) (some (.sl S ((rows.drop p).take<|q-p),.pure,.cV,xl++(xh++ [(x,.sl S rows)]))) none
     | .sr o S' l0 len'=>cond (Nat.beq S' S) (some (.sr o S (l0+p) (q-p),.pure,.cV,xl++(xh++(xm++ [(x,.sr o S l0 len')])))) none
     |_=>none
    |some _=>match hi with
     |none=>none
     |some _=>cond (Nat.beq p q&&Nat.beq p mx) (some (.sr N S 0 0,.from N,.push (.row e S []),xl++(xh++(xm++ [(x,av)]))))<|match av with
      | .sr o S' l0 len'=>cond (Nat.beq S' S&&(Nat.ble q mx&&Nat.ble mx len)&& !Nat.beq mx p) (some (.sr o S (l0+p) (q-p),.pure,.cV,xl++(xh++(xm++ [(x,.sr o S l0 len')])))) none
      |_=>none) none
   |_,_,_=>none
  |none=>none
 |_,_=>none
end
def PO(gs:Nat->Option Ob)(S:Nat):AV->Option (List<|lXF)
 | .sl S' new=>cond (Nat.beq S' S) (some new) none
 | .sr o S' lo len=>match gs o with
  |some (.row _ S2 rows)=>cond (Nat.beq S' S&&Nat.beq S2 S&&Nat.ble (lo+len) rows.length) (some<|(rows.drop lo).take len) none
  |_=>none
 | .v (.slice _ 0 _)=>some []
 | .v (.string s)=>cond (Nat.beq S 1) (some<|s.data.toList.map λb=>[.v (.int .u8 b.toNat)]) none
 |_=>none
theorem ZQ(ob:lXE)(S:Nat)(av:AV):PO (λi=>ob[i]?) S av=yX ob S av:=by rfl
def PQ(gs:Nat->Option Ob)(e:TypeId)(S:Nat):AV->Option (Nat×List lXF×Option Nat)
 | .v (.slice none 0 0)=>some (0,[],none)
 | .cl S' rows=>cond (Nat.beq S' S) (some (rows.length,rows,none)) none
 | .sr o S' 0 k=>match gs o with
  |some (.row e' S2 rows)=>cond (Nat.beq S' S&&Nat.beq S2 S&&Nat.beq e' e&&Nat.ble k rows.length) (some (k,rows,some o)) none
  |_=>none
 |_=>none
def dlOf(X:Ob):Option Nat->Dl
 |none=> .push X
 |some o=> .wP o X
def PR(N:Nat):Option Nat->Nat
 |none=>bit N
 |some o=>Nat.lor (bit o) (bit N)
def He(ob:lXE):Option Nat->lXE
 |none=>ob
 |some o=>ob.set o .dead
def M9{ob:lXE}{X:Ob}{d:Option Nat}{i:Nat}(h:tb (PR ob.length d) i=false):(He ob d++ [X])[i]? =ob[i]? :=by
 have key: ∀l:lXE,l.length=ob.length->l[i]? =ob[i]? ->i≠ob.length->(l++ [X])[i]? =ob[i]? :=by grind
 cases d with
 |none=>exact key ob rfl rfl λe=>iA h e.symm
 |some o=>have h':tb (Nat.lor (bit o)<|bit ob.length) i=false:=h;rw[lY,afU]at h';exact key (ob.set o .dead) (af3 ..) (af1 (iA h'.1)) λe=>iA h'.2 e.symm
theorem PS(ob:lXE)(X:Ob)(d:Option Nat):(dlOf X d).app ob=He ob d++ [X]:=by cases d<;>rfl
def Na{ob:lXE}{e:TypeId}{S:Nat}{av:AV}{k:Nat}{rows:List lXF}{d:Option Nat}(h:PQ (λi=>ob[i]?) e S av=some (k,rows,d)):Dst ob e S av k rows (He ob d):=by
 unfold PQ at h;split at h
 ·simp only[afD,afW]at h;obtain⟨rfl,rfl,rfl⟩:=h;exact .none
 ·rename_i S' rows';cases hc:Nat.beq S' S with
  |false=>rw[hc]at h;cases h
  |true=>rw[hc]at h;have:=afJ hc;subst this;cases h;exact .cl
 ·rename_i o S' k';split at h
  ·rename_i e' S2 rows' ho;cases hc:Nat.beq S' S&&Nat.beq S2 S&&Nat.beq e' e&&Nat.ble k' rows'.length with
   |false=>simp[hc]at h
   |true=>simp only[hc,afN,afD,afW]at h;simp only[afv]at hc;obtain⟨rfl,rfl,rfl⟩:=h;have q1:=afJ hc.1.1.1;have q2:=afJ hc.1.1.2;have q3:=afJ hc.1.2;subst q1;subst q2;subst q3;exact .row ho (nbl hc.2)
  ·cases h
 ·cases h
def vC(P:Program)(ev:Operand->Option AV)(t tx:TypeId)(x y:Operand)(gs:Nat->Option Ob)(N:Nat):Option Out:=
 match slk P t,ev x,ev y with
 |some (e,S,B),some avx,some avy=>match zer P e,PQ gs e S avx,PO gs S avy with
  |some zs,some (k,rows,d),some new=>
   cond (Nat.beq zs.length S&&yY P tx avy&&eu new&&Nat.ble ((k+new.length)*B) 140737488355328&&Nat.ble (k+new.length) 9223372036854775807&&clB avx new)
    (some (.sr N S 0 (k+new.length),.chg (PR N d),dlOf (.row e S<|rows.take k++new) d,[(x,avx),(y,avy)])) none
  |_,_,_=>none
 |_,_,_=>none
def wQ(P:Program)(ev:Operand->Option AV)(t tx:TypeId)(x y:Operand)(N:Nat):Option Out:=none
def lenE(P:Program)(ev:Operand->Option AV)(t:TypeId)(x:Operand)(_gs:Nat->Option Ob)(_N:Nat):Option Out:=
 match slk P t,ev x with
 |some _,some av=>match sy av with
  |some k=>some (.v (.int .i64 k),.pure,.cV,[(x,av)])
  |none=>none
 |_,_=>none
def wR(P:Program)(ev:Operand->Option AV)(t:TypeId)(x y z:Operand)(gs:Nat->Option Ob):Option Out:=none
def wS(P:Program)(ev:Operand->Option AV)(t:TypeId)(x y:Operand)(ok:Bool)(gs:Nat->Option Ob):Option Out:=none
section
variable(P:Program)(ev:Operand->Option AV)(t:TypeId)
def vD(x y z:Operand)(gs:Nat->Option Ob)(_N:Nat):Option Out:=
 match ER P t,ev x,ev y,ev z with
 |some (_,_,d),some (.mp o),some (.v k),some av=>match gs o with
  |some (.mp keys vals)=>cond (fC d k&&keys.all (fC d)) (match ll d k keys with
   |some i=>some (.any,.st o (.mp keys vals) (G9 keys vals k av i),.set o (G9 keys vals k av i),[(x,.mp o),(y,.v k),(z,av)])
   |none=>none) none
  |_=>none
 |_,_,_,_=>wR P ev t x y z gs
def Ch(x y:Operand)(ok:Bool)(gs:Nat->Option Ob)(_N:Nat):Option Out:=
 match ER P t,ev x,ev y with
 |some (_,vt,d),some (.mp o),some (.v k)=>match gs o,ey P (zeroValue vt)with
  |some (.mp keys vals),some z=>cond (fC d k) (match ll d k keys with
   |some i=>match qF vals (ofV z) i with
    |some av=>some (cond ok (.tu [av,.v (.bool<|okA i)]) av,.rd o (.mp keys vals),.cV,[(x,.mp o),(y,.v k)])
    |none=>none
   |none=>none) none
  |_,_=>none
 |_,_,_=>wS P ev t x y ok gs
end
def b2sE(P:Program)(ev:Operand->Option AV)(s d:TypeId)(x:Operand)(gs:Nat->Option Ob)(_N:Nat):Option Out:=none
def s2bE(P:Program)(ev:Operand->Option AV)(dst:Option Nat)(s d:TypeId)(x:Operand)(_gs:Nat->Option Ob)(N:Nat):Option Out:=none
def r2sE(P:Program)(ev:Operand->Option AV)(s d:TypeId)(x:Operand)(gs:Nat->Option Ob)(_N:Nat):Option Out:=none
def Hf(P:Program)(ev:Operand->Option AV)(s d:TypeId)(x:Operand)(gs:Nat->Option Ob)(_N:Nat):Option Out:=none
section
variable(P:Program)(ev:Operand->Option AV)(t:TypeId)(x i:Operand)
def EW:Option Out:=
 match arK P t,ev x,ev i with
 |some (len,_,S),some (.pt p q),some (.v<|.int k<|.ofNat z)=>cond (Nat.blt z len) (some (.pt p (q+z*S),.pure,.cV,[(x,.pt p q),(i,.v (.int k<|.ofNat z))])) none
 |some (len,_,S),some (.pf cs),some (.v<|.int k<|.ofNat z)=>cond (Nat.blt z len) (some (.pf (cs.drop<|z*S),.pure,.cV,[(x,.pf cs),(i,.v (.int k<|.ofNat z))])) none
 |_,_,_=>none
def Hg:Option Out:=
 match arK P t,ev x,ev i with
 |some (len,e,_),some (.ag cs),some (.v<|.int k<|.ofNat z)=>match tyk P e with
  |some (g,S)=>cond (Nat.blt z len) (match g with
   |true=>cond (Nat.ble (z*S+S) cs.length) (some (.ag ((cs.drop<|z*S).take S),.pure,.cV,[(x,.ag cs),(i,.v (.int k<|.ofNat z))])) none
   |false=>match cs[z*S]? with
    |some c=>some (c,.pure,.cV,[(x,.ag cs),(i,.v (.int k<|.ofNat z))])
    |none=>none) none
  |none=>none
 |_,_,_=>none
end
def Ci(P:Program)(ev:Operand->Option AV)(x:Operand)(_xt at':TypeId)(ok:Bool):Option Out:=none
section
variable(P:Program)(ev:Operand->Option AV)
def unsE(s d:TypeId)(x:Operand)(gs:Nat->Option Ob):Option Out:=
 match ev x with
 |some (.pt o off)=>match gs o with
  |some (.box Tb cells)=>cond (PN P s d&&Nat.blt off cells.length) (some (.pt o off,.rd o (.box Tb cells),.cV,[(x,.pt o off)])) (cond (wM P s d Tb cells.length off) (some (.pt o off,.rd o (.box Tb cells),.cV,[(x,.pt o off)])) none)
  |_=>none
 |_=>none
def ptrE(op:BinOp)(t:TypeId)(x y:Operand):Option Out:=
 match op,ev x,ev y with
 | .neq,some (.pt o off),some (.pt o2 off2)=>cond (Nat.beq o o2&&Nat.beq off off2&&ptrT P t) (some (.v (.bool false),.pure,.cV,[(x,.pt o off),(y,.pt o off)])) none
 |_,_,_=>none
end
def Hh(ev:Operand->Option AV)(x:Operand):Option Out:=
 match ev x with
 |some (.sr o 1 lo len)=>cond (Nat.blt 0 len) (some (.pt o lo,.pure,.cV,[(x,.sr o 1 lo len)])) none
 |_=>none
section
variable(P:Program)(ev:Operand->Option AV)
def PT(pt:TypeId)(x y:Operand)(gs:Nat->Option Ob):Option Out:=
 match P.underlying pt,ev x,ev y with
 |some (.pointer e),some (.pt o 0),some (.v<|.int .i64<|.ofNat k)=>match gs o with
  |some (.row e2 1 rows)=>cond (Nat.beq e2 e&&Nat.beq (P.cellsOf e) 1&&Nat.ble k rows.length&&Nat.blt 0 k&&Nat.ble k 9223372036854775807) (match gb (rows.take k).flatten with
   |some vs=>match Ha vs with
    |some bs=>cond (Nat.beq bs.length k) (some (.v (.string ⟨bs.toArray⟩),.st o (.row e2 1 rows) .dead,.set o .dead,[(x,.pt o 0),(y,.v (.int .i64 k))])) none
    |none=>none
   |none=>none) none
  |_=>none
 |_,_,_=>none
def exec(o:Oper)(gs:Nat->Option Ob)(N:Nat):Option Out:=
 match o.op with
 | .move x=>match ev x with
  |some av=>some (av,.pure,.cV,[(x,av)])
  |none=>none
 | .assign x=>match ev x with
  |some av=>some (av,.pure,.cV,[(x,av)])
  |none=>none
 | .pick c a b=>match ev c,ev a,ev b with
  |some (.v<|.bool t),some u,some v=>some (cond t u v,.pure,.cV,[(c,.v (.bool t)),(a,u),(b,v)])
  |_,_,_=>none
 | .alloc T=>match zer P T with
  |some zs=>some (.pt N 0,.from N,.push (.box T<|zs.map .v),[])
  |none=>none
 | .box T x=>match ev x with
  |some av=>match fB av with
   |some cs=>cond (frzB T o.dst) (some (.pf cs,.pure,.cV,[(x,av)])) (some (.pt N 0,.from N,.push (.box T cs),[(x,av)]))
   |none=>none
  |none=>none
 | .build t ps=>match fldA P t,Hd ev ps.toList with
  |some (pl,zs),some (avs,xs)=>match wv pl (zs.map .v) avs with
   |some cells=>some (.ag cells,.pure,.cV,xs)
   |none=>none
  |_,_=>none
 | .buildSlice t len ps=>match slk P t,Hd ev ps.toList with
  |some (e,S,_),some (avs,xs)=>match zer P e,rowsOf S 0 avs with
   |some _,some rows=>cond (Nat.beq avs.length len&&Nat.ble (len*S) (2^24)&&Nat.ble len maxLen) (cond (frzB t o.dst) (some (.sl S rows,.pure,.cV,xs))<|some (.sr N S 0 len,.from N,.push (.row e S rows),xs)) none
   |_,_=>none
  |_,_=>none
 | .load t x=>JV P ev t x gs N
 | .store t p x=>Cf P ev t p x gs N
 | .nilCheck x=>match ev x with
  |some (.pt p q)=>some (.pt p q,.pure,.cV,[(x,.pt p q)])
  |some (.pf cs)=>some (.pf cs,.pure,.cV,[(x,.pf cs)])
  |_=>none
 | .fieldAddr s x f=>match fld P s f,ev x with
  |some off,some (.pt p q)=>some (.pt p (q+off),.pure,.cV,[(x,.pt p q)])
  |some off,some (.pf cs)=>some (.pf (cs.drop off),.pure,.cV,[(x,.pf cs)])
  |_,_=>none
 | .indexAddr t x i=>match slk P t,ev x,ev i with
  |some (_,S,_),some (.sl S' rows),some (.v<|.int q<|.ofNat z)=>cond (Nat.beq S' S) (match rows[z]? with
   |some row=>some (.pf row,.pure,.cV,[(x,.sl S rows),(i,.v (.int q<|.ofNat z))])
   |none=>none) none
  |some (_,S,_),some (.sr p S' lo len),some (.v<|.int q<|.ofNat z)=>cond (Nat.beq S' S&&Nat.blt z len) (some (.pt p (lo*S+z*S),.pure,.cV,[(x,.sr p S lo len),(i,.v (.int q<|.ofNat z))])) none
  |_,_,_=>EW P ev t x i
 | .index t x i=>match Hg P ev t x i with
  |some r=>some r
  |none=>ji P ev o gs N
 | .typeAssert x xt at' ok=>Ci P ev x xt at' ok
 | .slice t x lo hi mo=>match Cg P ev t x lo hi mo gs N with
  |some r=>some r
  |none=>ji P ev o gs N
 | .makeMap _t none=>some (.mp N,.from N,.push (.mp [] []),[])
 | .makeSlice t x y=>match slk P t,ev x,ev y with
  |some (e,S,B),some (.v<|.int kl<|.ofNat a),some (.v<|.int kc<|.ofNat c)=>match zer P e with
   |some zs=>cond (Nat.beq zs.length S&&Nat.blt 0 S&&Nat.ble a c&&Nat.ble (B*c) 281474976710656&&Nat.ble c maxLen) (some (.sr N S 0 a,.from N,.push (.row e S<|replicate a<|zs.map .v),[(x,.v (.int kl<|.ofNat a)),(y,.v (.int kc<|.ofNat c))])) none
   |none=>none
  |_,_,_=>none
 | .mapUpdate t x y z=>vD P ev t x y z gs N
 | .insert t x y z=>vD P ev t x y z gs N
 | .lookup t x y ok=>match Ch P ev t x y ok gs N with
  |some r=>some r
  |none=>ji P ev o gs N
 | .convert s d x=>match b2sE P ev s d x gs N with
  |some r=>some r
  |none=>match Hf P ev s d x gs N with
   |some r=>some r
   |none=>match r2sE P ev s d x gs N with
    |some r=>some r
    |none=>match s2bE P ev o.dst s d x gs N with
     |some r=>some r
     |none=>match unsE P ev s d x gs with
      |some r=>some r
      |none=>ji P ev o gs N
 | .makeInterface t x=>match wF P t,ev x with
  |some false,some av=>some (.ifc t av,.pure,.cV,[(x,av)])
  |_,_=>none
 | .makeFunc f fs cs=>match Cd ev fs.toList,Cd ev cs.toList with
  |some (aS,xs),some (bs,ys)=>some (.fn f aS bs,.pure,.cV,xs++ys)
  |_,_=>none
 | .extract x i=>match ev x with
  |some (.tu vs)=>match vs[i]? with
   |some av=>some (av,.pure,.cV,[(x,.tu vs)])
   |none=>none
  |_=>none
 | .binOp op t x y _=>match strE ev op x y gs N with
  |some r=>some r
  |none=>match Ce P ev op t x y gs N with
   |some r=>some r
   |none=>match nnE P ev op t x y gs N with
    |some r=>some r
    |none=>match ptrE P ev op t x y with
     |some r=>some r
     |none=>ji P ev o gs N
 | .call c=>match c.callee,c.args.toList,c.argTypes.toList with
  | .builtin .append,[x,y],[t,tx]=>match vC P ev t tx x y gs N with
   |some r=>some r
   |none=>wQ P ev t tx x y N
  | .builtin .len,[x],[t]=>match lenE P ev t x gs N with
   |some r=>some r
   |none=>ji P ev o gs N
  | .builtin .unsafeSliceData,[x],_=>match Hh ev x with
   |some r=>some r
   |none=>ji P ev o gs N
  | .builtin .unsafeString,[x,y],[pt,_]=>match PT P ev pt x y gs with
   |some r=>some r
   |none=>ji P ev o gs N
  | .builtin _,_,_=>ji P ev o gs N
  |_,_,_=>none
 |_=>ji P ev o gs N
end
def dstC(gs:Nat->Option Ob)(e:TypeId)(S:Nat):AV->Option (Bool×Nat×List lXF×Option Nat)
 | .v (.slice none 0 0)=>some (true,0,[],none)
 | .cl S' rows=>some (Nat.beq S' S,rows.length,rows,none)
 | .sr o S' 0 k=>match gs o with
  |some (.row e' S2 rows)=>some (Nat.beq S' S&&Nat.beq S2 S&&Nat.beq e' e&&Nat.ble k rows.length,k,rows,some o)
  |_=>none
 |_=>none
def ZR{gs:Nat->Option Ob}{e:TypeId}{S:Nat}{av:AV}{r:Nat×List lXF×Option Nat}(h:dstC gs e S av=some (true,r)):PQ gs e S av=some r:=by unfold dstC at h;grind[PQ]
def srcC(gs:Nat->Option Ob)(S:Nat):AV->Option (Bool×List lXF)
 | .sr o S' lo len=>match gs o with
  |some (.row _ S2 rows)=>some (Nat.beq S' S&&Nat.beq S2 S&&Nat.ble (lo+len) rows.length,(rows.drop lo).take len)
  |_=>none
 |av=>match PO gs S av with
  |some new=>some (true,new)
  |none=>none
def ZS{gs:Nat->Option Ob}{S:Nat}{av:AV}{new:List lXF}(h:srcC gs S av=some (true,new)):PO gs S av=some new:=by unfold srcC at h;grind[PO]
section
variable(P:Program)(ev:Operand->Option AV)
def JW(t tx:TypeId)(x y:Operand)(gs:Nat->Option Ob)(N:Nat):Option (Bool×Out):=
 match slk P t,ev x,ev y with
 |some (e,S,B),some avx,some avy=>match zer P e,dstC gs e S avx,srcC gs S avy with
  |some zs,some (q,k,rows,d),some (q2,new)=>some (q&&q2&&(Nat.beq zs.length S&&yY P tx avy&&eu new&&Nat.ble ((k+new.length)*B) 140737488355328&&Nat.ble (k+new.length) 9223372036854775807&&clB avx new),(.sr N S 0 (k+new.length),.chg (PR N d),dlOf (.row e S<|rows.take k++new) d,[(x,avx),(y,avy)]))
  |_,_,_=>none
 |_,_,_=>none
def PU(t:TypeId)(x i:Operand):Option (Bool×Out):=
 match slk P t,ev x,ev i with
 |some (_,S,_),some (.sr p S' lo len),some (.v<|.int q<|.ofNat z)=>some (Nat.beq S' S&&Nat.blt z len,(.pt p (lo*S+z*S),.pure,.cV,[(x,.sr p S lo len),(i,.v (.int q<|.ofNat z))]))
 |_,_,_=>none
def PV(t:TypeId)(x:Operand)(lo hi:Option Operand):Option (Bool×Out):=
 match slk P t,ev x with
 |some (_,S,_),some av=>match sy av with
  |some len=>match bdE ev 0 lo,bdE ev len hi with
   |some (p,xl),some (q,xh)=>match av with
    | .sl S' rows=>some ((Nat.ble p q&&Nat.ble q len)&&Nat.beq S' S,(.sl S ((rows.drop p).take<|q-p),.pure,.cV,xl++(xh++ [(x,.sl S rows)])))
    | .sr o S' l0 len'=>some ((Nat.ble p q&&Nat.ble q len)&&Nat.beq S' S,(.sr o S (l0+p) (q-p),.pure,.cV,xl++(xh++([]++ [(x,.sr o S l0 len')]))))
    |_=>none
   |_,_=>none
  |none=>none
 |_,_=>none
def abC(t:TypeId)(x y:Operand)(N:Nat):Option (Bool×Out):=match slk P t,ev x,ev y with
 |some (e,S,B),some (.v<|.int kl<|.ofNat a),some (.v<|.int kc<|.ofNat c)=>match zer P e with
  |some zs=>some (Nat.beq zs.length S&&Nat.blt 0 S&&Nat.ble a c&&Nat.ble (B*c) 281474976710656&&Nat.ble c maxLen,(.sr N S 0 a,.from N,.push (.row e S<|replicate a<|zs.map .v),[(x,.v (.int kl<|.ofNat a)),(y,.v (.int kc<|.ofNat c))]))
  |none=>none
 |_,_,_=>none
def EX(op:Op)(gs:Nat->Option Ob)(N:Nat):Option (Bool×Out):=match op with
 | .indexAddr t x i=>PU P ev t x i
 | .slice t x lo hi none=>PV P ev t x lo hi
 | .call c=>match c.callee,c.args.toList,c.argTypes.toList with
  | .builtin .append,[x,y],[t,tx]=>JW P ev t tx x y gs N
  |_,_,_=>none
 | .makeSlice t x y=>abC P ev t x y N
 |_=>none
end
theorem Nb{P:Program}{ev:Operand->Option AV}{o:Oper}{gs:Nat->Option Ob}{N:Nat}{out:Out}(h:EX P ev o.op gs N=some (true,out)):exec P ev o gs N=some out:=by
 obtain⟨dst,op,ty,pos,after,guard⟩:=o;unfold EX at h;simp only at h;split at h
 ·rename_i t x i;unfold PU at h;split at h
  ·rename_i e S B p S' lo len q z h1 h2 h3;simp only[afD,afW]at h;obtain⟨hc,rfl⟩:=h;simp only[exec,h1,h2,h3,hc,afN]
  ·cases h
 ·rename_i t x lo hi;unfold PV at h;split at h
  ·rename_i e S B av h1 h2;split at h
   ·rename_i len h3;split at h
    ·grind[bdE,exec,Cg]
    ·cases h
   ·cases h
  ·cases h
 ·rename_i c;obtain⟨callee,args,ts⟩:=c;simp only at h;split at h
  ·rename_i x y t tx ha ht;simp only[exec,ha,ht];unfold JW at h;split at h
   ·rename_i e S B avx avy h1 h2 h3;split at h
    ·rename_i zs q k rows d q2 new g1 g2 g3;simp only[afD,afW]at h;obtain⟨hc,rfl⟩:=h;have hq:q=true:=by simp_all
     have hq2:q2=true:=by simp_all
     subst hq;subst hq2;simp only[agj]at hc;have g2':=ZR g2;have g3':=ZS g3;grind[vC]
    ·cases h
   ·cases h
  ·cases h
 ·rename_i t x y;unfold abC at h;split at h
  ·rename_i e S B kl a kc c h1 h2 h3;split at h
   ·rename_i zs h4;simp only[afD,afW]at h;obtain⟨hc,rfl⟩:=h;simp only[exec,h1,h2,h3,h4,hc,afN]
   ·cases h
  ·cases h
 ·cases h
inductive Gi where
 |b (d:Bool)
 |int (z:Int)
 |row (r:lXF)
 |at(j f:Nat) (r:lXF)
 |k
 |str (zs:lXA)
 |val (r:Value)
 |key (i:Option Nat) (av:AV)
 |cq (z:Nat) (r:lXF)
noncomputable def dec(p:Prop):Bool:= @decide p (Classical.propDecidable p)
theorem aH{p:Prop}:dec p=true↔p:=by grind[dec]
noncomputable def wT(P:Program)(ev:Operand->Option AV)(op:Op)(gs:Nat->Option Ob)(g:Gi):Option (Bool×Out):=match op,g with
 | .indexAddr t x i,.row r=>match slk P t,ev x,ev i with
  |some (_,S,_),some (.sl S' rows),some (.v<|.int q<|.ofNat z)=>some (Nat.beq S' S&&dec (rows[z]? =some r),(.pf r,.pure,.cV,[(x,.sl S rows),(i,.v (.int q<|.ofNat z))]))
  |_,some (.pf cs),some (.v<|.int q<|.ofNat z)=>match arK P t with
   |some (len,_,S)=>some (Nat.blt z len&&dec (cs.drop (z*S)=r),(.pf r,.pure,.cV,[(x,.pf cs),(i,.v (.int q<|.ofNat z))]))
   |none=>none
  |_,_,_=>none
 | .indexAddr t x i,.cq z r=>match slk P t,ev x,ev i with
  |some (_,S,_),some (.sl S' rows),some (.v<|.int q y)=>some (Nat.beq S' S&&(dec (y=(z:Int))&&dec (rows[z]? =some r)),(.pf r,.pure,.cV,[(x,.sl S rows),(i,.v (.int q y))]))
  |some (_,S,_),some (.sr p S' lo len),some (.v<|.int q y)=>some (Nat.beq S' S&&(dec (y=(z:Int))&&Nat.blt z len),(.pt p (lo*S+z*S),.pure,.cV,[(x,.sr p S lo len),(i,.v (.int q y))]))
  |_,some (.pt p o),some (.v<|.int q y)=>match arK P t with
   |some (len,_,S)=>some (dec (y=(z:Int))&&Nat.blt z len,(.pt p (o+z*S),.pure,.cV,[(x,.pt p o),(i,.v (.int q y))]))
   |none=>none
  |_,_,_=>none
 | .load t x,.at j f r=>match ev x,tyk P t with
  |some (.pt o off),some (g,k)=>match gs o with
   |some (.row E S rows)=>match g with
    |true=>some ((dec (off/S=j)&&(dec (off%S=f)&&dec (rows[j]? =some r)))&&Nat.ble (f+k) S,(.ag ((r.drop f).take k),.rd o (.row E S rows),.cV,[(x,.pt o off)]))
    |false=>match r[f]? with
     |some c=>some (dec (off/S=j)&&(dec (off%S=f)&&dec (rows[j]? =some r)),(c,.rd o (.row E S rows),.cV,[(x,.pt o off)]))
     |none=>none
   |_=>none
  |_,_=>none
 | .store t p x,.at j f r=>match ev p,ev x,tyk P t with
  |some (.pt o off),some av,some (_,k)=>match fB av,gs o with
   |some cs,some (.row E S rows)=>some ((Nat.beq cs.length k&&(dec (off/S=j)&&(dec (off%S=f)&&dec (rows[j]? =some r))))&&Nat.ble (f+k) S,(.any,.st o (.row E S rows) (.row E S<|rows.set j<|eT r f cs),.set o (.row E S<|rows.set j<|eT r f cs),[(p,.pt o off),(x,av)]))
   |_,_=>none
  |_,_,_=>none
 |_,_=>none
theorem Hi{P:Program}{ev:Operand->Option AV}{o:Oper}{gs:Nat->Option Ob}{N:Nat}{g:Gi}{out:Out}(h:wT P ev o.op gs g=some (true,out)):exec P ev o gs N=some out:=by
 obtain⟨dst,op,ty,pos,after,guard⟩:=o;unfold wT at h;simp only at h;split at h
 ·rename_i t x i r;split at h
  ·simp_all[aH,exec]
  ·rename_i cs q z h2 h3;split at h
   ·rename_i len e S h1;simp only[afD,afW,afv]at h;obtain⟨⟨c1,c2⟩,rfl⟩:=h;have c2:=aH.1 c2;subst c2;cases hs:slk P t<;>simp only[exec,EW,hs,h1,h2,h3,c1,afN]
   ·cases h
  ·cases h
 ·rename_i t x i z r;split at h
  ·rename_i e S B S' rows q y h1 h2 h3;simp only[afD,afW,afv]at h;obtain⟨⟨c1,c2,c3⟩,rfl⟩:=h;simp_all[aH,exec]
  ·rename_i e S B p S' lo len q y h1 h2 h3;simp only[afD,afW,afv]at h;obtain⟨⟨c1,c2,c3⟩,rfl⟩:=h;have c2:=aH.1 c2;subst c2;have h3':ev i=some (.v<|.int q<|.ofNat z):=h3;simp only[exec,h1,h2,h3',c1,c3,agP,afN];rfl
  ·rename_i p o q y h2 h3;split at h
   ·rename_i len e S h1;simp only[afD,afW,afv]at h;obtain⟨⟨c2,c3⟩,rfl⟩:=h;have c2:=aH.1 c2;subst c2;have h3':ev i=some (.v<|.int q<|.ofNat z):=h3;cases hs:slk P t<;>simp only[exec,EW,hs,h1,h2,h3',c3,afN]<;>rfl
   ·cases h
  ·cases h
 ·rename_i t x j f r;split at h
  ·grind[aH,exec,JV]
  ·cases h
 ·rename_i t p x j f r;split at h
  ·rename_i o off av g k h1 h2 h3;split at h
   ·rename_i cs E S rows h4 h5;simp only[afD,afW,afv]at h;grind[aH,exec,Cf]
   ·cases h
  ·cases h
 ·cases h
def PW(rows:List lXF)(zs:lXA):Prop:=eu rows=true/\ ∃vs,gb rows.flatten=some vs/\bytesOf vs=some zs
section
variable(P:Program)
def PX(s d:TypeId)(v r:Value):Prop:=ey P (convert s d v)=some r
def AI(b:Builtin)(ts:Array TypeId)(ty:TypeId)(fl:Array Bool)(vs:List Value)(r:Value):Prop:=ey P (invoke (.builtin b ts ty fl) vs.toArray)=some (.value r)
def PY(b:BinOp)(t:TypeId)(x y:Operand)(v u r:Value):Prop:=ey P (do eqGuard b t x y v u;binOp b t v u)=some r
def IxP(t:TypeId)(v u r:Value):Prop:=ey P (Instr.index t v u)=some r
end
def EY(d:TypeDesc)(k:Value)(keys:List Value)(i:Option Nat):Prop:=fC d k=true/\keys.all (fC d)=true/\ll d k keys=some i
def EZ:Operand->Bool
 | .const _=>true
 |_=>false
def putE(P:Program)(ev:Operand->Option AV)(t:TypeId)(x y z:Operand)(gs:Nat->Option Ob)(i:Option Nat)(ask:Prop->Bool):Option (Bool×Out):=match ER P t,ev x,ev y,ev z with
 |some (_,_,d),some (.mp o),some (.v k),some av=>match gs o with
  |some (.mp keys vals)=>some (ask (EY d k keys i),(.any,.st o (.mp keys vals) (G9 keys vals k av i),.set o (G9 keys vals k av i),[(x,.mp o),(y,.v k),(z,av)]))
  |_=>none
 |_,_,_,_=>none
def UstP(P:Program)(e e2:TypeId)(k:Nat)(rows:List lXF)(bs:List UInt8):Prop:=e2=e/\P.cellsOf e=1/\k<=rows.length/\0<k/\k<=9223372036854775807/\bs.length=k/\ ∃vs,gb (rows.take k).flatten=some vs/\Ha vs=some bs
noncomputable def E0(P:Program)(ev:Operand->Option AV)(ty:TypeId)(op:Op)(gs:Nat->Option Ob)(g:Gi):Option (Bool×Out):=match op,g with
 | .slice t x lo (some hi) (some mo),.k=>match slk P t,ev x with
  |some (_,S,_),some (.sl S' rows)=>match bdE ev 0 lo,bdE ev rows.length (some hi),bdE ev 0 (some mo)with
   |some (p,xl),some (q,xh),some (mx,xm)=>some (Nat.beq S' S&&dec (p<=q/\q=mx/\mx<=rows.length),(.cl S ((rows.drop p).take<|q-p),.pure,.cV,xl++(xh++(xm++ [(x,.sl S rows)]))))
   |_,_,_=>none
  |_,_=>none
 | .convert s d x,.str zs=>match ev x with
  |some (.sl 1 rows)=>some (strT P s d&&dec (PW rows zs),(.v (.string<|cS zs),.read,.cV,[(x,.sl 1 rows)]))
  |_=>none
 | .convert s d x,.val r=>match ev x with
  |some (.v v)=>some (dec (PX P s d v r),(ofV r,.pure,.cV,[(x,.v v)]))
  |_=>none
 | .call c,.val r=>match c.callee,c.args.toList with
  | .builtin b,[x]=>match ev x with
   |some (.v v)=>some (dec (AI P b c.argTypes ty #[EZ x] [v] r),(ofV r,.pure,.cV,[(x,.v v)]))
   |_=>none
  | .builtin b,[x,y]=>match ev x,ev y with
   |some (.v v),some (.v u)=>some (dec (AI P b c.argTypes ty #[EZ x,EZ y] [v,u] r),(ofV r,.pure,.cV,[(x,.v v),(y,.v u)]))
   |_,_=>none
  |_,_=>none
 | .call c,.k=>match c.callee,c.args.toList with
  | .builtin .unsafeSliceData,[x]=>match ev x with
   |some (.sr o 1 lo len)=>some (dec (0<len),(.pt o lo,.pure,.cV,[(x,.sr o 1 lo len)]))
   |_=>none
  |_,_=>none
 | .call c,.str zs=>match c.callee,c.args.toList,c.argTypes.toList with
  | .builtin .unsafeString,[x,y],[pt,_]=>match P.underlying pt,ev x,ev y with
   |some (.pointer e),some (.pt o 0),some (.v<|.int .i64<|.ofNat k)=>match gs o with
    |some (.row e2 1 rows)=>some (dec (UstP P e e2 k rows<|zs.map λz=>UInt8.ofNat z.toNat),(.v (.string ⟨(zs.map λz=>UInt8.ofNat z.toNat).toArray⟩),.st o (.row e2 1 rows) .dead,.set o .dead,[(x,.pt o 0),(y,.v (.int .i64 k))]))
    |_=>none
   |_,_,_=>none
  |_,_,_=>none
 | .binOp b t x y _,.val r=>match ev x,ev y with
  |some (.v v),some (.v u)=>some (dec (PY P b t x y v u r),(ofV r,.pure,.cV,[(x,.v v),(y,.v u)]))
  |_,_=>none
 | .index t x i,.val r=>match ev x,ev i with
  |some (.v v),some (.v u)=>some (dec (IxP P t v u r),(ofV r,.pure,.cV,[(x,.v v),(i,.v u)]))
  |_,_=>none
 | .mapUpdate t x y z,.key i _=>putE P ev t x y z gs i dec
 | .insert t x y z,.key i _=>putE P ev t x y z gs i dec
 | .lookup t x y ok,.key i av=>match ER P t,ev x,ev y with
  |some (_,vt,d),some (.mp o),some (.v k)=>match gs o,ey P (zeroValue vt)with
   |some (.mp keys vals),some z=>some (dec (EY d k keys i/\qF vals (ofV z) i=some av),(cond ok (.tu [av,.v (.bool<|okA i)]) av,.rd o (.mp keys vals),.cV,[(x,.mp o),(y,.v k)]))
   |_,_=>none
  |_,_,_=>none
 |_,_=>none
inductive Tri(α:Type) where
 |e
 |n (v:Option α) (l r:Tri α)
section
variable{α:Type}
noncomputable def Tri.get(m:Tri α):Nat->Option α:=
 Tri.rec (motive:=λ_=>Nat->Option α) (λ_=>none)
  (λv _ _ gl gr t=>cond (Nat.beq t 0) v<|cond (Nat.beq (Nat.mod t 2) 0) (gl<|Nat.div t 2)<|gr<|Nat.div t 2) m
noncomputable def Tri.new(av:α)(k:Nat):Nat->Tri α:=
 Nat.rec (motive:=λ_=>Nat->Tri α) (λ_=> .n (some av) .e .e)
  (λ_ ih t=>cond (Nat.beq t 0) (.n (some av) .e .e)<|cond (Nat.beq (Nat.mod t 2) 0) (.n none (ih<|Nat.div t 2) .e)<|.n none .e<|ih<|Nat.div t 2) k
noncomputable def Tri.set(av:α)(m:Tri α):Nat->Tri α:=
 Tri.rec (motive:=λ_=>Nat->Tri α) (λt=>Tri.new av t t)
  (λv l r sl sr t=>cond (Nat.beq t 0) (.n (some av) l r)<|cond (Nat.beq (Nat.mod t 2) 0) (.n v (sl<|Nat.div t 2) r)<|.n v l<|sr<|Nat.div t 2) m
end
noncomputable def tev(M:Tri AV):Operand->Option AV
 | .tmp t=>M.get t
 | .const (.agg cs)=>some (.ag<|cs.toList.map .v)
 | .const v=>some (.v v)
 | .global g=>match yV.lookup g with
  |some cs=>some (.pf<|cs.map .v)
  |none=>some (.v<|.pointer<|some ⟨g,0,none⟩)
 | .func f=>some (.fn (.func f) [] [])
inductive GR where
 |fail
 |ok (want:Bool) (gu:Loc)
noncomputable def gdE(l:List Oper)(M:Tri AV):Option (Nat×Bool)->GR
 |none=> .ok true []
 |some (j,want)=>match l[j]? with
  |some q=>match q.dst with
   |some t=>match M.get t with
    |some (.v<|.bool b)=> .ok (cond want b<|!b) [(t,.v (.bool b))]
    |some (.v<|.tuple ⟨[]⟩)=> .ok false [(t,.v undef)]
    |_=> .fail
   |none=> .fail
  |none=> .fail
def Cj(n:Nat):Option Nat->Bool
 |some d=>Nat.blt d n
 |none=>true
noncomputable def upT(M:Tri AV)(av:AV):Option Nat->Tri AV
 |some d=>M.set av d
 |none=>M
def tmD(N:Nat):Dl->Nat
 | .cV=>0
 | .set k _=>bit k
 | .push _=>bit N
 | .wP k _=>Nat.lor (bit k) (bit N)
structure TM where
 lo:Nat
 gd:List Gi
 ok:lXB
def TM.low:TM->Nat->TM
 |⟨a,g,o⟩,k=>⟨Nat.lor a k,g,o⟩
def TM.meet:TM->TM->TM
 |⟨a,_,_⟩,⟨b,g,o⟩=>⟨Nat.lor a b,g,o⟩
def TM.take:TM->TM->TM
 |⟨a,_,_⟩,⟨_,g,o⟩=>⟨a,g,o⟩
def TM.at:TM->Nat->TM
 |⟨_,g,o⟩,_=>⟨0,g,o⟩
def TM.asks:TM->Bool->TM
 |⟨a,g,o⟩,p=>⟨a,g,p::o⟩
def TM.told:TM->List Gi->Bool->TM
 |⟨a,_,o⟩,r,p=>⟨a,r,p::o⟩
def TM.syn:TM->Bool->Bool->Bool
 |⟨_,[],_⟩,real,_=>real
 |⟨_,_::_,_⟩,_,s=>s
def TM.z8:TM->Bool->TM
 |⟨a,[],o⟩,_=>⟨a,[],o⟩
 |⟨a,g::r,o⟩,p=>⟨a,g::r,p::o⟩
mutual
def AV.PZ:AV->Bool
 | .pt _ _=>false
 | .sr _ _ _ _=>false
 | .mp _=>false
 | .yl _=>false
 | .any=>true
 | .v _=>true
 | .sl _ _=>true
 | .cl _ _=>true
 | .ag cs=>jQ cs
 | .tu cs=>jQ cs
 | .pf cs=>jQ cs
 | .fn _ fs cs=>jQ fs&&jQ cs
 | .ifc _ y=>y.PZ
def jQ:lXF->Bool
 |[]=>true
 |c::cs=>c.PZ&&jQ cs
end
noncomputable def ez(O:Tri Ob)(N:Nat):Dl->Tri Ob
 | .cV=>O
 | .set k X=>cond (Nat.blt k N) (O.set X k) O
 | .push X=>O.set X N
 | .wP k X=>(cond (Nat.blt k N) (O.set .dead k) O).set X N
def appN(N:Nat):Dl->Nat
 | .cV=>N
 | .set _ _=>N
 | .push _=>N+1
 | .wP _ _=>N+1
inductive CR where
 |fail
 |ret (av:AV) (O:Tri Ob) (N:Nat) (tm:TM)
 |pan (av:AV) (O:Tri Ob) (N:Nat) (tm:TM)
inductive SR where
 |fail
 |val (rc:Rec) (M:Tri AV) (O:Tri Ob) (N:Nat) (tm:TM)
 |pan (av:AV) (O:Tri Ob) (N:Nat) (tm:TM)
inductive RR where
 |fail
 |ok (recs:List Rec) (M:Tri AV) (O:Tri Ob) (N:Nat) (tm:TM)
 |pan (av:AV) (M:Tri AV) (O:Tri Ob) (N:Nat) (tm:TM)
inductive RX where
 |fail
 |ok (x:AX) (M:Tri AV) (O:Tri Ob) (N:Nat) (tm:TM)
abbrev cd:=FuncId->lXF->Tri Ob->Nat->TM->CR
def dm:Nat:=1000000
def ac4(c:CR)(rc:AV->Nat->Rec)(M:AV->Tri AV)(tm:TM):SR:=match c with
 | .ret r O1 N1 t1=> .val (rc r t1.lo) (M r) O1 N1 (tm.meet t1)
 | .pan av O1 N1 t1=> .pan av O1 N1 (tm.meet t1)
 | .fail=> .fail
def pz(c:CR)(rc:AV->Kd->Rec)(M:AV->Tri AV)(O:Tri Ob)(N:Nat)(tm:TM):SR:=match c with
 | .ret r O1 N1 t1=>cond (Nat.beq (Nat.mod t1.lo<|Nat.pow 2 N) 0&&t1.syn (r.und N) false) (.val (rc r .read) (M r) O N<|tm.take t1) (.val (rc r<|.chg t1.lo) (M r) O1 N1<|tm.meet t1)
 | .pan av O1 N1 t1=> .pan av O1 N1 (tm.meet t1)
 | .fail=> .fail
noncomputable def wU(k:Nat):lXE->Tri Ob->Tri Ob
 |[],O=>O
 |X::l,O=>wU (k+1) l (O.set X k)
def JX(N k:Nat):Nat:=Nat.shiftLeft (Nat.pred<|Nat.pow 2 k) N
def shf(N i:Nat):Nat:=Nat.add N i
noncomputable def E1(O:Tri Ob)(N k:Nat):Nat->lXE:=
 Nat.rec (motive:=λ_=>Nat->lXE) (λ_=>[]) (λ_ ih i=>(match O.get i with
  |some X=>X.ren (shf N)
  |none=> .dead)::ih (Nat.succ i)) k
noncomputable def oW(O:Tri Ob)(k:Nat):Nat->lXE:=
 Nat.rec (motive:=λ_=>Nat->lXE) (λ_=>[]) (λ_ ih i=>(match O.get i with
  |some X=>X
  |none=> .dead)::ih (Nat.succ i)) k
noncomputable def P0(f:FuncId)(r:AV)(O:Tri Ob)(N:Nat):Option AV:=cond (frzF.any<|Nat.beq f) (match jP (oW O N 0) 0 60 r with
 |some r'=>cond r'.pure (some r') none
 |none=>none) none
noncomputable def Hj(f:FuncId)(c:CR)(rc:AV->Kd->Rec)(M:AV->Tri AV)(O:Tri Ob)(N:Nat)(tm:TM)(alt:SR):SR:=match c with
 | .ret r O1 N1 t1=>cond (Nat.beq N1 0&&t1.syn r.pure r.PZ) (.val (rc r .pure) (M r) O N<|(tm.take t1).z8 r.pure)<|match P0 f r O1 N1 with
  |some r'=> .val (rc r' .pure) (M r') O N (tm.take t1)
  |none=>(.val (rc (r.ren<|shf N)<|.from N) (M<|r.ren<|shf N) (wU N (E1 O1 N N1 0) O) (Nat.add N N1)<|(tm.take t1).low<|JX N N1)
 | .pan _ _ _ _=>alt
 | .fail=> .fail
def escE(args:List Operand)(avs fs cs:lXF)(k:AV->SR):SR:=match args,avs,fs,cs with
 |[_],[av],[],[]=>k av
 |_,_,_,_=> .fail
noncomputable def JY(P:Program)(callf:cd)(pu:FuncId->Bool)(dst:Option Nat)(gu:Loc)(x:Operand)(args:List Operand)(M:Tri AV)(O:Tri Ob)(N:Nat)(tm:TM):SR:=
 match tev M x,Cd (tev M) args with
 |some (.yl o),some (avs,xs)=>ac4 (callf (dm+o) avs O N tm) (λr t1=>⟨dst,gu++cg ((x,.yl o)::xs),r,[],.yl t1⟩) (λr=>upT M r dst) tm
 |some (.fn (.func f) fs cs),some (avs,xs)=>cond (!Nat.blt f dm) .fail<|cond (wN P f) (escE args avs fs cs<|λav=> .val ⟨dst,gu++cg ((x,.fn (.func f) fs cs)::xs),av,[],.pure⟩ (upT M av dst) O N tm)<|cond (tm.syn (aq avs&&aq fs&&aq cs)<|jQ avs&&jQ fs&&jQ cs)
  (Hj f (callf f (fs++(avs++cs)) .e 0<|tm.z8<|aq avs&&aq fs&&aq cs) (λr kd=>⟨dst,gu++cg ((x,.fn (.func f) fs cs)::xs),r,[],kd⟩) (λr=>upT M r dst) O N tm<|pz (callf f (fs++(avs++cs)) O N tm) (λr kd=>⟨dst,gu++cg ((x,.fn (.func f) fs cs)::xs),r,[],kd⟩) (λr=>upT M r dst) O N tm)
  (cond (pu f) .fail<|pz (callf f (fs++(avs++cs)) O N tm) (λr kd=>⟨dst,gu++cg ((x,.fn (.func f) fs cs)::xs),r,[],kd⟩) (λr=>upT M r dst) O N tm)
 |_,_=> .fail
section
variable(M:Tri AV)(dst:Option Nat)(gu:Loc)(O:Tri Ob)(N:Nat)(tm:TM)
def ia(upT:Tri AV->AV->Option Nat->Tri AV)(ez:Tri Ob->Nat->Dl->Tri Ob):Option Out->SR
 |some (r,kd,d,xs)=> .val ⟨dst,gu++cg xs,r,[],kd⟩ (upT M r dst) (ez O N d) (appN N d) (tm.low<|tmD N d)
 |none=> .fail
noncomputable def cmpR(g:Gi)(r:List Gi)(upT:Tri AV->AV->Option Nat->Tri AV)(ez:Tri Ob->Nat->Dl->Tri Ob)(out:Option Out):SR:=match g,out with
 | .b d,some (.v (.bool b),.pure,.cV,xs)=> .val ⟨dst,gu++cg xs,.v (.bool d),[],.pure⟩ (upT M (.v<|.bool d) dst) O N (tm.told r<|cond d b<|!b)
 | .int z,some (.v (.int k n),.pure,.cV,xs)=> .val ⟨dst,gu++cg xs,.v (.int k z),[],.pure⟩ (upT M (.v<|.int k z) dst) O N (tm.told r<|dec<|n=z)
 | .k,some (.v (.bool b),.pure,.cV,xs)=> .val ⟨dst,gu++cg xs,.v (.bool b),[],.pure⟩ (upT M (.v<|.bool b) dst) O N (tm.told r true)
 |_,o=>ia M dst gu O N tm upT ez o
def Hk(upT:Tri AV->AV->Option Nat->Tri AV)(ez:Tri Ob->Nat->Dl->Tri Ob)(x:Option Out):Option (Bool×Out)->SR
 |some (p,out)=>ia M dst gu O N (tm.asks p) upT ez (some out)
 |none=>ia M dst gu O N tm upT ez x
noncomputable def nq(r:List Gi)(upT:Tri AV->AV->Option Nat->Tri AV)(ez:Tri Ob->Nat->Dl->Tri Ob)(y:SR):Option (Bool×Out)->SR
 |some (p,out)=>ia M dst gu O N (tm.told r p) upT ez (some out)
 |none=>y
end
noncomputable def panE(M:Tri AV)(x:Operand)(O:Tri Ob)(N:Nat)(tm:TM):SR:=match tev M x with
 |some (.ifc t y)=> .pan (.ifc t y) O N tm
 |_=> .fail
noncomputable def Aa(P:Program)(callf:cd)(pu:FuncId->Bool)(o:Oper)(gu:Loc)(M:Tri AV)(O:Tri Ob)(N:Nat)(tm:TM):SR:=match o.op with
 | .call c=>match c.callee with
  | .value x=>JY P callf pu o.dst gu x c.args.toList M O N tm
  |_=>match tm.gd with
   |[]=>ia M o.dst gu O N tm upT ez (exec P (tev M) o O.get N)
   |g::r=>nq M o.dst gu O N tm r upT ez (Hk M o.dst gu O N tm upT ez (exec P (tev M) o O.get N)<|EX P (tev M) o.op O.get N) (E0 P (tev M) o.type o.op O.get g)
 | .indexAddr _ _ _=>match tm.gd with
  |[]=>ia M o.dst gu O N tm upT ez (exec P (tev M) o O.get N)
  |g::r=>nq M o.dst gu O N tm r upT ez (Hk M o.dst gu O N tm upT ez (exec P (tev M) o O.get N)<|EX P (tev M) o.op O.get N) (wT P (tev M) o.op O.get g)
 | .slice _ _ _ _ _=>match tm.gd with
  |[]=>ia M o.dst gu O N tm upT ez (exec P (tev M) o O.get N)
  |g::r=>nq M o.dst gu O N tm r upT ez (Hk M o.dst gu O N tm upT ez (exec P (tev M) o O.get N)<|EX P (tev M) o.op O.get N) (E0 P (tev M) o.type o.op O.get g)
 | .load _ _=>match tm.gd with
  |[]=>ia M o.dst gu O N tm upT ez (exec P (tev M) o O.get N)
  |g::r=>nq M o.dst gu O N tm r upT ez (ia M o.dst gu O N tm upT ez<|exec P (tev M) o O.get N) (wT P (tev M) o.op O.get g)
 | .store _ _ _=>match tm.gd with
  |[]=>ia M o.dst gu O N tm upT ez (exec P (tev M) o O.get N)
  |g::r=>nq M o.dst gu O N tm r upT ez (ia M o.dst gu O N tm upT ez<|exec P (tev M) o O.get N) (wT P (tev M) o.op O.get g)
 | .makeSlice _ _ _=>match tm.gd with
  |[]=>ia M o.dst gu O N tm upT ez (exec P (tev M) o O.get N)
  |_::_=>Hk M o.dst gu O N tm upT ez (exec P (tev M) o O.get N) (EX P (tev M) o.op O.get N)
 | .panic x=>panE M x O N tm
 | .binOp _ _ _ _ _=>match tm.gd with
  |[]=>ia M o.dst gu O N tm upT ez (exec P (tev M) o O.get N)
  |d::r=>nq M o.dst gu O N tm r upT ez (cmpR M o.dst gu O N tm d r upT ez<|exec P (tev M) o O.get N) (E0 P (tev M) o.type o.op O.get d)
 |_=>match tm.gd with
  |[]=>ia M o.dst gu O N tm upT ez (exec P (tev M) o O.get N)
  |g::r=>nq M o.dst gu O N tm r upT ez (ia M o.dst gu O N tm upT ez<|exec P (tev M) o O.get N) (E0 P (tev M) o.type o.op O.get g)
noncomputable def wV(P:Program)(n:Nat)(callf:cd)(pu:FuncId->Bool)(all:List Oper)(o:Oper)(M:Tri AV)(O:Tri Ob)(N:Nat)(tm:TM):SR:=
 cond (Cj n o.dst) (match gdE all M o.guard with
  | .ok true gu=>Aa P callf pu o gu M O N tm
  | .ok false gu=> .val ⟨o.dst,gu,.v undef,[],.pure⟩ (upT M (.v undef) o.dst) O N tm
  | .fail=> .fail) .fail
noncomputable def E2(M:Tri AV)(v:Bool):Loc->Tri AV
 |(t,.v (.bool _))::_=>M.set (.v<|.bool v) t
 |_=>M
section
variable(P:Program)(n:Nat)(callf:cd)(pu:FuncId->Bool)(all:List Oper)(o:Oper)
noncomputable def stepG(want d:Bool)(r:List Gi)(M:Tri AV)(O:Tri Ob)(N:Nat)(tm:TM):SR:=
 cond (Cj n o.dst) (match gdE all M o.guard with
  | .ok w gu=>cond d (Aa P callf pu o gu (E2 M want gu) O N<|tm.told r w) (.val ⟨o.dst,gu,.v undef,[],.pure⟩ (upT (E2 M (!want) gu) (.v undef) o.dst) O N<|tm.told r<|!w)
  | .fail=> .fail) .fail
noncomputable def mm(M:Tri AV)(O:Tri Ob)(N:Nat)(tm:TM):SR:=match o.guard with
 |none=>wV P n callf pu all o M O N tm
 |some (_,want)=>match tm.gd with
  | .b d::r=>stepG P n callf pu all o want d r M O N tm
  |_=>wV P n callf pu all o M O N tm
end
def consR(rc:Rec):RR->RR
 | .ok recs M O N tm=> .ok (rc::recs) M O N tm
 |r=>r
def JZ(M0:Tri AV)(ih:Tri AV->Tri Ob->Nat->TM->RR):SR->RR
 | .val rc M O N tm=>consR rc (ih M O N tm)
 | .pan av O N tm=> .pan av M0 O N tm
 | .fail=> .fail
noncomputable def fL(P:Program)(n:Nat)(callf:cd)(pu:FuncId->Bool)(all:List Oper)(l:List Oper):Tri AV->Tri Ob->Nat->TM->RR:=
 List.rec (motive:=λ_=>Tri AV->Tri Ob->Nat->TM->RR) (λM O N tm=> .ok [] M O N tm)
  (λo _ ih M O N tm=>JZ M ih<|mm P n callf pu all o M O N tm) l
def _root_.Go.Code.inR:Code->Bool
 | .region _ ops _=>ops.toList.all Oper.still
 | .seq a b=>a.inR&&b.inR
 | .cond _ a b=>a.inR&&b.inR
 | .block _ c=>c.inR
 | .loop c=>c.inR
 | .scope _=>false
 | .rangeFunc _ _ _ _=>false
 |_=>true
def Ck(ops:List Oper)(draw:Bool):RR->RX
 | .ok recs M O N tm=>match draw with
  |true=>cond (pn ops recs) (.ok .normal M O N tm) .fail
  |false=> .ok .normal M O N tm
 | .pan av M O N tm=>cond (!draw) (.ok (.panic av) M O N tm) .fail
 | .fail=> .fail
def qK(k:Tri AV->Tri Ob->Nat->TM->RX):RX->RX
 | .ok .normal M O N tm=>k M O N tm
 |r=>r
def pB(id:Nat):RX->RX
 | .ok (.exit j) M O N tm=>cond (Nat.beq j id) (.ok .normal M O N tm) (.ok (.exit j) M O N tm)
 |r=>r
def noGo:RX->RX
 | .ok (.goto _) _ _ _ _=> .fail
 |r=>r
section
variable(run:Code->Tri AV->Tri Ob->Nat->TM->RX)(c:Code)
def P1(ih:RX->RX):RX->RX
 | .ok (.goto l) M O N tm=>match findLabel c l with
  |some rest=>cond (!rest.rf||c.rf) (ih<|run rest M O N tm) .fail
  |none=> .fail
 |r=>r
noncomputable def pD(k:Nat):RX->RX:=Nat.rec (motive:=λ_=>RX->RX) noGo (λ_ ih=>P1 run c ih) k
end
noncomputable def wW(step:Tri AV->Tri Ob->Nat->TM->RX)(k:Nat):Tri AV->Tri Ob->Nat->TM->RX:=Nat.rec (motive:=λ_=>Tri AV->Tri Ob->Nat->TM->RX) (λ_ _ _ _=> .fail) (λ_ ih M O N tm=>qK ih<|step M O N tm) k
def wX(a b:Tri AV->Tri Ob->Nat->TM->RX)(M:Tri AV)(O:Tri Ob)(N:Nat)(tm:TM):Option AV->RX
 |some (.v<|.bool true)=>a M O N tm
 |some (.v<|.bool false)=>b M O N tm
 |_=> .fail
noncomputable def Tri.all(M:Tri AV):Nat->Nat->List (Nat×AV)->List (Nat×AV):=
 Tri.rec (motive:=λ_=>Nat->Nat->List (Nat×AV)->List (Nat×AV)) (λ_ _ l=>l)
  (λv _ _ al ar k s l=>match v with
   |some av=>(k,av)::al k (2*s) (ar (k+s) (2*s) l)
   |none=>al k (2*s)<|ar (k+s) (2*s) l) M
def J0:Option Code->Option AX
 |none=>some .normal
 |some (.exit id)=>some (.exit id)
 |some .ret=>some .ret
 |_=>none
def P2:AX->Option (Option Code)
 | .normal=>some none
 | .exit id=>some (some<|.exit id)
 | .ret=>some (some .ret)
 |_=>none
noncomputable def rngE(N:Nat)(M:Tri AV)(tm:TM):CR->RX
 | .ret _ O N1 t1=>match O.get N with
  |some (.lp false k _ _)=>match J0 k.jump with
   |some x=> .ok x M (O.set .dead N) N1 ((tm.meet t1).low<|bit N)
   |none=> .fail
  |_=> .fail
 |_=> .fail
noncomputable def rngR(n:Nat)(callf:cd)(g:Operand)(ps:Array Tmp)(a b:Code)(M:Tri AV)(O:Tri Ob)(N:Nat)(tm:TM):RX:=match tev M g with
 |some (.fn (.func f) [] cs)=>match (M.all 0 1 []).filter λp=>match M.get p.1 with
   |some _=>Nat.blt p.1 n
   |none=>false with
  |l=>cond (Nat.blt f dm&&(a.inR&&b.inR)) (rngE N M tm (callf f (.yl N::cs) (O.set (.lp false ⟨n,ps,a,b,none⟩ (l.map (·.1))<|l.map λp=>match M.get p.1 with
   |some av=>av
   |none=> .any) N) (N+1)<|tm.at (N+1))) .fail
 |_=> .fail
noncomputable def wY(run:Code->Tri AV->Tri Ob->Nat->TM->RX)(P:Program)(n:Nat)(callf:cd)(pu:FuncId->Bool)(lf:Nat)(c:Code):Tri AV->Tri Ob->Nat->TM->RX:=
 Code.rec (motive:=λ_=>Tri AV->Tri Ob->Nat->TM->RX)
  (λM O N tm=> .ok .normal M O N tm)
  (λ_ ops draw M O N tm=>Ck ops.toList draw<|fL P n callf pu ops.toList ops.toList M O N tm)
  (λ_ _ a b M O N tm=>qK b<|a M O N tm)
  (λx _ _ a b M O N tm=>wX a b M O N tm<|tev M x)
  (λid _ a M O N tm=>pB id<|a M O N tm)
  (λ_ a=>wW a lf)
  (λg ps a b _ _ M O N tm=>rngR n callf g ps a b M O N tm)
  (λid M O N tm=> .ok (.exit id) M O N tm)
  (λc a M O N tm=>pD run c lf<|a M O N tm)
  (λ_ M O N tm=> .ok .normal M O N tm)
  (λl M O N tm=> .ok (.goto l) M O N tm)
  (λM O N tm=> .ok .ret M O N tm)
  (λ_ _ _ _ _=> .fail) c
noncomputable def dJ(P:Program)(n:Nat)(callf:cd)(pu:FuncId->Bool)(lf:Nat)(c:Code):Tri AV->Tri Ob->Nat->TM->RX:=wY (wY (λ_ _ _ _ _=> .fail) P n callf pu lf) P n callf pu lf c
noncomputable def mn(P:Program)(M:Tri AV)(O:Tri Ob):List ResultVar->Option lXF
 |[]=>some []
 | .tmp t::rs=>match M.get t,mn P M O rs with
  |some av,some avs=>some (av::avs)
  |_,_=>none
 | .cell t ty::rs=>match M.get t,tyk P ty,mn P M O rs with
  |some (.pt o off),some (g,k),some avs=>match O.get o with
   |some (.box _ cells)=>match g with
    |true=>cond (Nat.ble (off+k) cells.length) (some<|.ag ((cells.drop off).take k)::avs) none
    |false=>match cells[off]? with
     |some c=>some (c::avs)
     |none=>none
   |_=>none
  |_,_,_=>none
noncomputable def J1(N:Nat)(r:AV)(O:Tri Ob)(N1:Nat)(tm:TM):CR:=cond (Nat.beq N 0&&(!Nat.beq N1 0&&tm.syn (r.und 0) false)) (.ret r .e 0<|tm.at 0) (.ret r O N1 tm)
section
variable(P:Program)(N0:Nat)(rs:List ResultVar)
noncomputable def Cl(M:Tri AV)(O:Tri Ob)(N:Nat)(tm:TM):CR:=match mn P M O rs with
 |some avs=>J1 N0 (iw avs) O N tm
 |none=> .fail
noncomputable def endE:RX->CR
 | .ok x M O N tm=>match x with
  | .normal=>Cl P N0 rs M O N tm
  | .ret=>Cl P N0 rs M O N tm
  | .panic av=> .pan av O N tm
  |_=> .fail
 | .fail=> .fail
end
noncomputable def mq(k:Nat):lXF->Tri AV->Tri AV
 |[],M=>M
 |av::r,M=>mq (k+1) r (M.set av k)
def AJ:List Oper->Option (List Oper×Operand)
 |[]=>none
 |[⟨none,.defer ⟨.value x,⟨[]⟩,_⟩,_,_,_,none⟩]=>some ([],x)
 |o::l=>match AJ l with
  |some (l',x)=>some (o::l',x)
  |none=>none
def P3:Code->Option (Code×List Oper×List Oper×Operand×Code)
 | .seq a (.seq (.region _ ops false) b)=>match AJ ops.toList with
  |some (l,x)=>some (a,ops.toList,l,x,b)
  |none=>none
 |_=>none
def ac5:Code->Option (Option Nat×List Oper×List Oper×Code)
 | .seq (.region _ ⟨⟨d,.call ⟨.builtin .recover,⟨[]⟩,ts⟩,ty,pos,af,none⟩::l⟩ false) b=>some (d,⟨d,.call ⟨.builtin .recover,⟨[]⟩,ts⟩,ty,pos,af,none⟩::l,l,b)
 |_=>none
inductive DR where
 |fail
 |ok (O:Tri Ob) (N:Nat) (tm:TM)
def noYl(recs:List Rec):Bool:=recs.all λrc=> !rc.kind.isYl
def recR(k:List Rec->Tri AV->Tri Ob->Nat->TM->DR):RR->DR
 | .ok recs M O N tm=>cond (noYl recs) (k recs M O N tm) .fail
 |_=> .fail
def endDR:RX->DR
 | .ok .normal _ O N tm=> .ok O N tm
 | .ok .ret _ O N tm=> .ok O N tm
 |_=> .fail
def panV:Option AV->AV
 |some av=>av
 |none=> .v .nilIface
noncomputable def runDef(P:Program)(pu:FuncId->Bool)(lf:Nat)(callf:cd)(g:FuncId)(args:lXF)(pan:Option AV)(O:Tri Ob)(N:Nat)(tm:TM):DR:=match P.funcs[g]? with
 |some fn=>match fn.body with
  |some c=>match ac5 c with
   |some (some d,all,l,b)=>cond (Nat.ble args.length fn.ntmps&&Nat.blt d fn.ntmps&&fn.results.toList.isEmpty&& !(fn.name== "runtime.NumGoroutine"))
    (recR (λ_ M O N tm=>cond b.rf .fail<|endDR<|dJ P fn.ntmps callf pu lf b M O N tm)<|fL P fn.ntmps callf pu all l ((mq 0 args .e).set (panV pan) d) O N tm) .fail
   |_=> .fail
  |none=> .fail
 |none=> .fail
noncomputable def runD(P:Program)(pu:FuncId->Bool)(lf:Nat)(callf:cd)(n N0:Nat)(rs:List ResultVar)(all l:List Oper)(x:Operand)(b:Code):RX->CR:=λ_=> .fail
noncomputable def oq(P:Program)(pu:FuncId->Bool)(lf:Nat)(callf:cd)(fn:Func)(c:Code)(args:lXF)(O:Tri Ob)(N:Nat)(tm:TM):CR:=match P3 c with
 |none=>endE P N fn.results.toList (dJ P fn.ntmps callf pu lf c (mq 0 args .e) O N<|tm.at N)
 |some (a,all,l,x,b)=>cond (a.rf||b.rf) .fail<|runD P pu lf callf fn.ntmps N fn.results.toList all l x b (dJ P fn.ntmps callf pu lf a (mq 0 args .e) O N<|tm.at N)
noncomputable def J2:List Tmp->lXF->Tri AV->Tri AV
 |t::ts,av::avs,M=>J2 ts avs (M.set av t)
 |_,_,M=>M
noncomputable def lpT:lXC->lXF->Tri AV
 |t::ts,av::avs=>(lpT ts avs).set av t
 |_,_=> .e
noncomputable def rndE(o:Nat):RX->CR
 | .ok x _ O N tm=>match P2 x with
  |some j=>match O.get o with
   |some (.lp true k ts cs)=>cond k.free (.ret (.v<|.bool j.isNone) (O.set (.lp false (k.left j) ts cs) o) N<|tm.low<|bit o) .fail
   |_=> .fail
  |none=> .fail
 |_=> .fail
section
variable(P:Program)(pu:FuncId->Bool)(lf:Nat)(callf:cd)
noncomputable def rndB(n o:Nat)(b:Code)(M:Tri AV)(O:Tri Ob)(N:Nat)(tm:TM):CR:=match O.get o with
 |some (.lp false k ts cs)=>cond k.free (rndE o<|dJ P n callf pu lf b M (O.set (.lp true k ts cs) o) N<|tm.low<|bit o) .fail
 |_=> .fail
noncomputable def rndA(n o:Nat)(b:Code):RX->CR
 | .ok .normal M O N tm=>rndB P pu lf callf n o b M O N tm
 |_=> .fail
noncomputable def Nc(o:Nat)(args:lXF)(O:Tri Ob)(N:Nat)(tm:TM):CR:=match O.get o with
 |some (.lp false k ts cs)=>cond (Nat.beq args.length k.ps.size&&(k.ps.toList.all (λt=>Nat.blt t k.n)&&(k.assign.inR&&k.body.inR)))
  (rndA P pu lf callf k.n o k.body<|dJ P k.n callf pu lf k.assign (J2 k.ps.toList args<|lpT ts cs) O N<|tm.at N) .fail
 |_=> .fail
end
noncomputable def E3(P:Program)(pu:FuncId->Bool)(lf k:Nat):cd:=
 Nat.rec (motive:=λ_=>cd) (λ_ _ _ _ _=> .fail)
  (λ_ callf f args O N tm=>cond (!Nat.blt f dm) (Nc P pu lf callf (f-dm) args O N tm)<|match P.funcs[f]? with
   |some fn=>match fn.body with
    |some c=>cond (Nat.ble args.length fn.ntmps&& !(fn.name== "runtime.NumGoroutine")) (oq P pu lf callf fn c args O N tm) .fail
    |none=> .fail
   |none=> .fail) k
def Steps(P:Program)(n:Nat)(ops:Array Oper)(L:Loc)(gu:Loc)(o:Oper)(ob:lXE)(out:Out):Prop:=∀{l:List Oper}{kf:List Rec->Loc->lXE->Prop},EvK P n ops l (cN L o.dst out.1 []) (out.2.2.1.app ob) (λrecs=>kf (⟨o.dst,gu++cg out.2.2.2,out.1,[],out.2.1⟩::recs))->EvK P n ops (o::l) L ob kf
section
variable{P:Program}{n:Nat}{ops:Array Oper}{L:Loc}{ob:lXE}{gu:Loc}
variable{dst:Option Nat}{ty:TypeId}{pos:String}{after:Array Edge}{guard:Option (Nat×Bool)}{out:Out}
theorem dp(hg:Gd ops L guard gu)(hn: ∀d,dst=some d->d<n){op:Op}(h:ji P (aX L) ⟨dst,op,ty,pos,after,guard⟩ (λi=>ob[i]?) ob.length=some out):Steps P n ops L gu ⟨dst,op,ty,pos,after,guard⟩ ob out:=by
 intro l kf kk;unfold ji at h;split at h
 ·rename_i xs hxs;cases hp:hU (aX L) xs with
  |false=>rw[hp]at h;cases h
  |true=>
   rw[hp]at h;simp only[afN]at h;split at h
   ·rename_i r hr;cases h;exact iG (o:=⟨dst,op,ty,pos,after,guard⟩) hxs hp hr hg hn kk
   ·cases h
 ·cases h
theorem Hl(hg:Gd ops L guard gu)(hn: ∀d,dst=some d->d<n){op:BinOp}{t t':TypeId}{x y:Operand}(h:strE (aX L) op x y (λi=>ob[i]?) ob.length=some out):Steps P n ops L gu ⟨dst,.binOp op t x y t',ty,pos,after,guard⟩ ob out:=by
 intro l kf kk;unfold strE at h;split at h
 ·rename_i a b hx hy;cases h;exact ET hx hy (.inl ⟨rfl,rfl⟩) hg hn kk
 ·rename_i a b hx hy;cases h;exact ET hx hy (.inr ⟨rfl,rfl⟩) hg hn kk
 ·cases h
theorem Ab(hg:Gd ops L guard gu)(hn: ∀d,dst=some d->d<n){op:BinOp}{t t':TypeId}{x y:Operand}(h:Ce P (aX L) op t x y (λi=>ob[i]?) ob.length=some out):Steps P n ops L gu ⟨dst,.binOp op t x y t',ty,pos,after,guard⟩ ob out:=by
 intro l kf kk;unfold Ce at h;split at h
 ·rename_i cs ds hx hy;split at h
  ·rename_i os xs ys h1 h2 h3;split at h
   ·rename_i b h4;have key: ∀(m:Mem)(γ:Gam)(a:Act),gZ m γ a [(x,.ag cs),(y,.ag ds)]->a.eval x= .agg xs.toArray/\a.eval y= .agg ys.toArray:=λm γ a hr=>by obtain⟨r1,r2,_⟩:=hr;rw[iV h2]at r1;rw[iV h3]at r2;simp only[Rep]at r1 r2;obtain⟨us,e1,r1⟩:=r1;obtain⟨vs,e2,r2⟩:=r2;rw[jK r1]at e1;rw[jK r2]at e2;exact⟨e1,e2⟩
    split at h
    ·cases h;exact cK (o:=⟨dst,.binOp .eql t x y t',ty,pos,after,guard⟩) [(x,.ag cs),(y,.ag ds)] ⟨hx,hy,trivial⟩ hg hn (λm γ w a _ hr=>by obtain⟨e1,e2⟩:=key m γ a hr;refine⟨.bool b,?_,by simp[Rep]⟩;simp only[execOp,e1,e2];rw[Sem.run_bind,(afw (P:=P) (w:=w) h1 h4 x y).1];rfl) kk
    ·cases h;exact cK (o:=⟨dst,.binOp .neq t x y t',ty,pos,after,guard⟩) [(x,.ag cs),(y,.ag ds)] ⟨hx,hy,trivial⟩ hg hn (λm γ w a _ hr=>by obtain⟨e1,e2⟩:=key m γ a hr;refine⟨.bool !b,?_,by simp[Rep]⟩;simp only[execOp,e1,e2];rw[Sem.run_bind,(afw (P:=P) (w:=w) h1 h4 x y).2];rfl) kk
    ·cases h
   ·cases h
  ·cases h
 ·cases h
theorem Nd(hg:Gd ops L guard gu)(hn: ∀d,dst=some d->d<n){op:BinOp}{t t':TypeId}{x y:Operand}(h:nnE P (aX L) op t x y (λi=>ob[i]?) ob.length=some out):Steps P n ops L gu ⟨dst,.binOp op t x y t',ty,pos,after,guard⟩ ob out:=by
 intro l kf kk;unfold nnE at h;split at h
 ·rename_i av z hx hy;split at h
  ·rename_i k hk;cases hc:Nat.beq (mi z) (k+1)&&Nat.beq (AA P t) (k+1)with
   |false=>rw[hc]at h;cases h
   |true=>
    rw[hc]at h;simp only[afv]at hc;have h1:=afJ hc.1;have h2:=afJ hc.2;simp only[afN]at h;split at h
    ·cases h;exact abA (ob:=ob) hx hy hk h1 h2 (.inl ⟨rfl,rfl⟩) hg hn kk
    ·cases h;exact abA (ob:=ob) hx hy hk h1 h2 (.inr ⟨rfl,rfl⟩) hg hn kk
    ·cases h
  ·cases h
 ·cases h
theorem E4(hg:Gd ops L guard gu)(hn: ∀d,dst=some d->d<n){t:TypeId}{x:Operand}(h:JV P (aX L) t x (λi=>ob[i]?) ob.length=some out):Steps P n ops L gu ⟨dst,.load t x,ty,pos,after,guard⟩ ob out:=by
 intro l kf kk;unfold JV at h;split at h
 ·rename_i o off g k hx ht;split at h
  ·rename_i cells ho;split at h
   ·cases hb:Nat.ble (off+k) cells.length with
    |false=>rw[hb]at h;cases h
    |true=>rw[hb]at h;cases h;exact wo _ ht hx ho (nbl hb) rfl hg hn kk
   ·split at h
    ·rename_i c hc;cases h;exact wq ht hx ho hc hg hn kk
    ·cases h
  ·rename_i E S rows ho;split at h
   ·rename_i row hrow;have hdm:off=off/S*S+off%S:=by grind[Nat.div_add_mod]
    split at h
    ·cases hb:Nat.ble (off%S+k) S with
     |false=>rw[hb]at h;cases h
     |true=>rw[hb]at h;cases h;exact uz ht hx ho hdm hrow (nbl hb) hg hn kk
    ·split at h
     ·rename_i c hc;cases h;exact uA ht hx ho hdm hrow hc hg hn kk
     ·cases h
   ·cases h
  ·cases h
 ·rename_i cs g k hx ht;split at h
  ·cases hb:Nat.ble k cs.length with
   |false=>rw[hb]at h;cases h
   |true=>rw[hb]at h;cases h;exact wk _ ht hx (nbl hb) rfl hg hn kk
  ·split at h
   ·cases h;exact wm ht hx hg hn kk
   ·cases h
 ·cases h
theorem Cm(hg:Gd ops L guard gu)(hn: ∀d,dst=some d->d<n){t:TypeId}{p x:Operand}(h:Cf P (aX L) t p x (λi=>ob[i]?) ob.length=some out):Steps P n ops L gu ⟨dst,.store t p x,ty,pos,after,guard⟩ ob out:=by
 intro l kf kk;unfold Cf at h;split at h
 ·rename_i o off av g k hp hx ht;split at h
  ·rename_i cs hc;cases hl:Nat.beq cs.length k with
   |false=>rw[hl]at h;cases h
   |true=>
    rw[hl]at h;have hl':=afJ hl;simp only[afN]at h;split at h
    ·rename_i cells ho;cases hb:Nat.ble (off+k) cells.length with
     |false=>rw[hb]at h;cases h
     |true=>rw[hb]at h;cases h;exact B5 _ _ ht hp hx hc hl' ho (nbl hb) rfl rfl hg hn kk
    ·rename_i E S rows ho;split at h
     ·rename_i row hrow;cases hb:Nat.ble (off%S+k) S with
      |false=>rw[hb]at h;cases h
      |true=>rw[hb]at h;cases h;exact B6 ht hp hx hc hl' ho (by grind[Nat.div_add_mod]) hrow (nbl hb) hg hn kk
     ·cases h
    ·cases h
  ·cases h
 ·cases h
theorem Cn(hg:Gd ops L guard gu)(hn: ∀d,dst=some d->d<n){t:TypeId}{x:Operand}{lo hi mo:Option Operand}(h:Cg P (aX L) t x lo hi mo (λi=>ob[i]?) ob.length=some out):Steps P n ops L gu ⟨dst,.slice t x lo hi mo,ty,pos,after,guard⟩ ob out:=by
 intro l kf kk;unfold Cg at h;split at h
 ·rename_i e S B av ht hx;split at h
  ·rename_i len hlen;split at h
   ·rename_i p xl q xh mx xm hl hh hm;have bl:=lu hl;have bh:=lu hh;have bm:=lu hm;cases hc:Nat.ble p q&&Nat.ble q len with
    |false=>rw[hc]at h;cases h
    |true=>
     rw[hc]at h;simp only[afv]at hc;have c1:=nbl hc.1;have c2:=nbl hc.2;simp only[afN]at h;split at h
     ·split at h
      ·rename_i S' rows;cases hS:Nat.beq S' S with
       |false=>rw[hS]at h;cases h
       |true=>rw[hS]at h;have:=afJ hS;subst this;simp only[sy,afD]at hlen;subst hlen;cases h;exact EK ht hx bl bh c1 c2 hg hn kk
      ·rename_i o S' l0 len';cases hS:Nat.beq S' S with
       |false=>rw[hS]at h;cases h
       |true=>rw[hS]at h;have:=afJ hS;subst this;simp only[sy,afD]at hlen;subst hlen;cases h;exact tO ht hx bl bh bm c1 c2 (.inl rfl) hg hn kk
      ·cases h
     ·rename_i m0;split at h
      ·cases h
      ·rename_i h0;cases hz:Nat.beq p q&&Nat.beq p mx with
       |true=>
        rw[hz]at h;simp only[afv]at hz;have z1:=afJ hz.1;have z2:=afJ hz.2;subst z1;subst z2;cases h;have bh':Bd L 0 (some h0) p xh:=by cases bh with|num a b=>exact .num a b
        refine ko ob.length (λi hi=>afO hi) (λkf kk=>M4 ht hx hlen bl bh' bm ⟨⟨_,rfl⟩,⟨_,rfl⟩⟩ c2 hg hn kk) kk
       |false=>
        rw[hz]at h;simp only[afY]at h;split at h
        ·rename_i o S' l0 len';cases hS:Nat.beq S' S&&(Nat.ble q mx&&Nat.ble mx len)&& !Nat.beq mx p with
         |false=>rw[hS]at h;cases h
         |true=>rw[hS]at h;simp only[afv,afP]at hS;obtain⟨⟨q1,q2,q3⟩,q4⟩:=hS;have:=afJ q1;subst this;have q4':=agE q4;simp only[sy,afD]at hlen;subst hlen;cases h;exact tO ht hx bl bh bm c1 c2 oaq hg hn kk
        ·cases h
   ·cases h
  ·cases h
 ·cases h
theorem Ac(hg:Gd ops L guard gu)(hn: ∀d,dst=some d->d<n){t tx:TypeId}{x y:Operand}(h:vC P (aX L) t tx x y (λi=>ob[i]?) ob.length=some out):Steps P n ops L gu ⟨dst,.call ⟨.builtin .append,#[x,y],#[t,tx]⟩,ty,pos,after,guard⟩ ob out:=by
 intro l kf kk;unfold vC at h;split at h
 ·rename_i e S B avx avy ht hx hy;split at h
  ·rename_i zs k rows d new hz hd hs;have hD:=Na hd;rw[ZQ]at hs;cases hc:Nat.beq zs.length S&&yY P tx avy&&eu new&&Nat.ble ((k+new.length)*B) 140737488355328&&Nat.ble (k+new.length) 9223372036854775807&&clB avx new with
   |false=>rw[hc]at h;cases h
   |true=>rw[hc]at h;simp only[afv]at hc;obtain⟨⟨⟨⟨⟨c1,c2⟩,c3⟩,c4⟩,c5⟩,c6⟩:=hc;cases h;simp only[PS]at kk;exact PH _ (λi hi=>M9 hi) (by grind[G7,afJ,nbl]) kk
  ·cases h
 ·cases h
theorem wZ(hg:Gd ops L guard gu)(hn: ∀d,dst=some d->d<n){t tx:TypeId}{x y:Operand}(h:wQ P (aX L) t tx x y ob.length=some out):Steps P n ops L gu ⟨dst,.call ⟨.builtin .append,#[x,y],#[t,tx]⟩,ty,pos,after,guard⟩ ob out:=by unfold wQ at h;cases h
theorem Hm(hg:Gd ops L guard gu)(hn: ∀d,dst=some d->d<n){t:TypeId}{x:Operand}(h:lenE P (aX L) t x (λi=>ob[i]?) ob.length=some out):Steps P n ops L gu ⟨dst,.call ⟨.builtin .len,#[x],#[t]⟩,ty,pos,after,guard⟩ ob out:=by
 intro l kf kk;unfold lenE at h;split at h
 ·rename_i d av ht hx;split at h
  ·rename_i k hk;cases h;refine ac0 ht hx ?_ hg hn kk;unfold sy at hk;grind
  ·cases h
 ·cases h
theorem w9(hg:Gd ops L guard gu)(hn: ∀d,dst=some d->d<n){op:Op}{t:TypeId}{x y z:Operand}(hop:op= .mapUpdate t x y z\/op= .insert t x y z)(h:wR P (aX L) t x y z (λi=>ob[i]?)=some out):Steps P n ops L gu ⟨dst,op,ty,pos,after,guard⟩ ob out:=by unfold wR at h;cases h
theorem xc(hg:Gd ops L guard gu)(hn: ∀d,dst=some d->d<n){t:TypeId}{x y:Operand}{ok:Bool}(h:wS P (aX L) t x y ok (λi=>ob[i]?)=some out):Steps P n ops L gu ⟨dst,.lookup t x y ok,ty,pos,after,guard⟩ ob out:=by unfold wS at h;cases h
theorem oX(hg:Gd ops L guard gu)(hn: ∀d,dst=some d->d<n){op:Op}{t:TypeId}{x y z:Operand}(hop:op= .mapUpdate t x y z\/op= .insert t x y z)(h:vD P (aX L) t x y z (λi=>ob[i]?) ob.length=some out):Steps P n ops L gu ⟨dst,op,ty,pos,after,guard⟩ ob out:=by
 intro l kf kk;unfold vD at h;split at h
 ·rename_i kt vt d o k av ht hx hy hz;split at h
  ·rename_i keys vals ho;cases hc:fC d k&&keys.all (fC d)with
   |false=>rw[hc]at h;cases h
   |true=>
    rw[hc]at h;simp only[afv]at hc;simp only[afN]at h;split at h
    ·rename_i i hi;cases h;exact AD hop ht hx hy hz ho hc.1 hc.2 hi hg hn kk
    ·cases h
  ·cases h
 ·exact w9 hg hn hop h kk
theorem Ad(hg:Gd ops L guard gu)(hn: ∀d,dst=some d->d<n){t:TypeId}{x y:Operand}{ok:Bool}(h:Ch P (aX L) t x y ok (λi=>ob[i]?) ob.length=some out):Steps P n ops L gu ⟨dst,.lookup t x y ok,ty,pos,after,guard⟩ ob out:=by
 intro l kf kk;unfold Ch at h;split at h
 ·rename_i kt vt d o k ht hx hy;split at h
  ·rename_i keys vals z ho hz;cases hc:fC d k with
   |false=>rw[hc]at h;cases h
   |true=>
    rw[hc]at h;simp only[afN]at h;split at h
    ·rename_i i hi;split at h
     ·rename_i av hv;cases h;exact AE ht hz hx hy ho hc hi hv hg hn kk
     ·cases h
    ·cases h
  ·cases h
 ·exact xc hg hn h kk
theorem Hn(hg:Gd ops L guard gu)(hn: ∀d,dst=some d->d<n){s d:TypeId}{x:Operand}(h:b2sE P (aX L) s d x (λi=>ob[i]?) ob.length=some out):Steps P n ops L gu ⟨dst,.convert s d x,ty,pos,after,guard⟩ ob out:=by unfold b2sE at h;cases h
theorem Ho(hg:Gd ops L guard gu)(hn: ∀d,dst=some d->d<n){s d:TypeId}{x:Operand}(h:r2sE P (aX L) s d x (λi=>ob[i]?) ob.length=some out):Steps P n ops L gu ⟨dst,.convert s d x,ty,pos,after,guard⟩ ob out:=by unfold r2sE at h;cases h
theorem Hp(hg:Gd ops L guard gu)(hn: ∀d,dst=some d->d<n){s d:TypeId}{x:Operand}(h:s2bE P (aX L) dst s d x (λi=>ob[i]?) ob.length=some out):Steps P n ops L gu ⟨dst,.convert s d x,ty,pos,after,guard⟩ ob out:=by unfold s2bE at h;cases h
theorem Hq(hg:Gd ops L guard gu)(hn: ∀d,dst=some d->d<n){s d:TypeId}{x:Operand}(h:unsE P (aX L) s d x (λi=>ob[i]?)=some out):Steps P n ops L gu ⟨dst,.convert s d x,ty,pos,after,guard⟩ ob out:=by
 intro l kf kk;unfold unsE at h;split at h
 ·rename_i o off hx;split at h
  ·rename_i Tb cells ho;cases hc:PN P s d&&Nat.blt off cells.length with
   |true=>rw[hc]at h;simp only[afv]at hc;cases h;exact EV hc.1 hx ho (nbl hc.2) hg hn kk
   |false=>
    rw[hc]at h;simp only[afY]at h;cases hf:wM P s d Tb cells.length off with
    |false=>rw[hf]at h;cases h
    |true=>rw[hf]at h;cases h;exact z7 hf hx ho hg hn kk
  ·cases h
 ·cases h
theorem Hr(hg:Gd ops L guard gu)(hn: ∀d,dst=some d->d<n){op:BinOp}{t t':TypeId}{x y:Operand}(h:ptrE P (aX L) op t x y=some out):Steps P n ops L gu ⟨dst,.binOp op t x y t',ty,pos,after,guard⟩ ob out:=by
 intro l kf kk;unfold ptrE at h;split at h
 ·rename_i o off o2 off2 hx hy;cases hc:Nat.beq o o2&&Nat.beq off off2&&ptrT P t with
  |false=>rw[hc]at h;cases h
  |true=>rw[hc]at h;simp only[afv]at hc;have q1:=afJ hc.1.1;have q2:=afJ hc.1.2;subst q1;subst q2;cases h;exact M8 hc.2 hx hy hg hn kk
 ·cases h
theorem Co(hg:Gd ops L guard gu)(hn: ∀d,dst=some d->d<n){x:Operand}{ts:Array TypeId}(h:Hh (aX L) x=some out):Steps P n ops L gu ⟨dst,.call ⟨.builtin .unsafeSliceData,#[x],ts⟩,ty,pos,after,guard⟩ ob out:=by
 intro l kf kk;unfold Hh at h;split at h
 ·rename_i o lo len hx;cases hc:Nat.blt 0 len with
  |false=>rw[hc]at h;cases h
  |true=>rw[hc]at h;cases h;exact qJ hx (nbl hc) hg hn kk
 ·cases h
theorem E5(hg:Gd ops L guard gu)(hn: ∀d,dst=some d->d<n){x y:Operand}{pt it:TypeId}(h:PT P (aX L) pt x y (λi=>ob[i]?)=some out):Steps P n ops L gu ⟨dst,.call ⟨.builtin .unsafeString,#[x,y],#[pt,it]⟩,ty,pos,after,guard⟩ ob out:=by
 intro l kf kk;unfold PT at h;split at h
 ·rename_i e o k hp hx hy;split at h
  ·rename_i e2 rows ho;cases hc:Nat.beq e2 e&&Nat.beq (P.cellsOf e) 1&&Nat.ble k rows.length&&Nat.blt 0 k&&Nat.ble k 9223372036854775807 with
   |false=>rw[hc]at h;cases h
   |true=>
    rw[hc]at h;simp only[afv]at hc;obtain⟨⟨⟨⟨c1,c2⟩,c3⟩,c4⟩,c5⟩:=hc;have q1:=afJ c1;subst q1;simp only[afN]at h;split at h
    ·rename_i vs hv;split at h
     ·rename_i bs hb;cases hl:Nat.beq bs.length k with
      |false=>rw[hl]at h;cases h
      |true=>rw[hl]at h;cases h;exact mF hp (afJ c2) hx hy ho (nbl c3) (nbl c4) hv hb hl (nbl c5) hg hn kk
     ·cases h
    ·cases h
  ·cases h
 ·cases h
theorem Cp(hg:Gd ops L guard gu)(hn: ∀d,dst=some d->d<n){s d:TypeId}{x:Operand}(h:Hf P (aX L) s d x (λi=>ob[i]?) ob.length=some out):Steps P n ops L gu ⟨dst,.convert s d x,ty,pos,after,guard⟩ ob out:=by unfold Hf at h;cases h
theorem E6(hg:Gd ops L guard gu)(hn: ∀d,dst=some d->d<n){t:TypeId}{x i:Operand}(h:EW P (aX L) t x i=some out):Steps P n ops L gu ⟨dst,.indexAddr t x i,ty,pos,after,guard⟩ ob out:=by
 intro l kf kk;unfold EW at h;split at h
 ·rename_i len e S p q k z ht hx hi;cases hz:Nat.blt z len with
  |false=>rw[hz]at h;cases h
  |true=>
   rw[hz]at h;have hlt:z<len:=by simp[Nat.blt]at hz;omega
   cases h;exact y9 ht hx hi hlt hg hn kk
 ·rename_i len e S cs k z ht hx hi;cases hz:Nat.blt z len with
  |false=>rw[hz]at h;cases h
  |true=>
   rw[hz]at h;have hlt:z<len:=by simp[Nat.blt]at hz;omega
   cases h;exact z6 ht hx hi hlt hg hn kk
 ·cases h
theorem Cq(hg:Gd ops L guard gu)(hn: ∀d,dst=some d->d<n){t:TypeId}{x i:Operand}(h:Hg P (aX L) t x i=some out):Steps P n ops L gu ⟨dst,.index t x i,ty,pos,after,guard⟩ ob out:=by
 intro l kf kk;unfold Hg at h;split at h
 ·rename_i len e S' cs k z ht hx hi;split at h
  ·rename_i g S he;cases hz:Nat.blt z len with
   |false=>rw[hz]at h;cases h
   |true=>
    rw[hz]at h;have hlt:z<len:=by simp[Nat.blt]at hz;omega
    simp only[afN]at h;split at h
    ·cases hb:Nat.ble (z*S+S) cs.length with
     |false=>rw[hb]at h;cases h
     |true=>rw[hb]at h;cases h;exact wJ ht he hx hi hlt (.inl ⟨rfl,nbl hb,rfl⟩) hg hn kk
    ·split at h
     ·rename_i c hc;cases h;exact wJ ht he hx hi hlt (.inr ⟨rfl,hc⟩) hg hn kk
     ·cases h
  ·cases h
 ·cases h
theorem Ae(hg:Gd ops L guard gu)(hn: ∀d,dst=some d->d<n){x:Operand}{xt at':TypeId}{ok:Bool}(h:Ci P (aX L) x xt at' ok=some out):Steps P n ops L gu ⟨dst,.typeAssert x xt at' ok,ty,pos,after,guard⟩ ob out:=by unfold Ci at h;cases h
theorem Hs(hg:Gd ops L guard gu)(hn: ∀d,dst=some d->d<n){op:Op}(h:exec P (aX L) ⟨dst,op,ty,pos,after,guard⟩ (λi=>ob[i]?) ob.length=some out):Steps P n ops L gu ⟨dst,op,ty,pos,after,guard⟩ ob out:=by
 intro l kf kk;cases op with
 |move x=>
  simp only[exec]at h;split at h
  ·rename_i av hx;cases h;exact ZJ hx hg hn kk
  ·cases h
 |assign x=>
  simp only[exec]at h;split at h
  ·rename_i av hx;cases h;exact Au hx hg hn kk
  ·cases h
 |pick c a b=>
  simp only[exec]at h;split at h
  ·rename_i t u v h1 h2 h3;cases h;exact ZK h1 h2 h3 hg hn kk
  ·cases h
 |alloc T=>
  simp only[exec]at h;split at h
  ·rename_i zs hz;cases h;exact ko ob.length (λi hi=>afO hi) (λkf kk=>PD _ _ hz rfl rfl hg hn kk) kk
  ·cases h
 |box T x=>
  simp only[exec]at h;split at h
  ·rename_i av hx;split at h
   ·rename_i cs hc;cases hfz:frzB T dst with
    |true=>rw[hfz]at h;cases h;exact ZM hx hc hg hn kk
    |false=>
    rw[hfz]at h;cases h;exact ko ob.length (λi hi=>afO hi) (λkf kk=>ac1 _ _ hx hc rfl rfl hg hn kk) kk
   ·cases h
  ·cases h
 |build t ps=>
  simp only[exec]at h;split at h
  ·rename_i pl zs avs xs hf hp;split at h
   ·rename_i cells hfl;cases h;have e:ps=ps.toList.toArray:=by simp
    rw[e];exact M5 hf (om hp) hfl hg hn kk
   ·cases h
  ·cases h
 |buildSlice t len ps=>
  simp only[exec]at h;split at h
  ·rename_i e S B avs xs ht hp;split at h
   ·rename_i zs rows hz hr;cases hc:Nat.beq avs.length len&&Nat.ble (len*S) (2^24)&&Nat.ble len maxLen with
    |false=>rw[hc]at h;cases h
    |true=>
     rw[hc]at h;simp only[afv]at hc;simp only[afN]at h;have e:ps=ps.toList.toArray:=by simp
     rw[e];cases hfz:frzB t dst with
     |true=>rw[hfz]at h;cases h;exact yW ht hz (om hp) hr (afJ hc.1.1) (nbl hc.1.2) hg hn kk
     |false=>
     rw[hfz]at h;cases h;exact ko ob.length (λi hi=>afO hi) (λkf kk=>wH ht hz (om hp) hr (afJ hc.1.1) (nbl hc.1.2) (nbl hc.2) hg hn kk) kk
   ·cases h
  ·cases h
 |load t x=>simp only[exec]at h;exact E4 hg hn h kk
 |store t p x=>simp only[exec]at h;exact Cm hg hn h kk
 |nilCheck x=>
  simp only[exec]at h;split at h
  ·rename_i p q hx;cases h;exact tM hx trivial hg hn kk
  ·rename_i cs hx;cases h;exact tM hx trivial hg hn kk
  ·cases h
 |fieldAddr s x f=>
  simp only[exec]at h;split at h
  ·rename_i off p q hf hx;cases h;exact uv _ hf hx rfl hg hn kk
  ·rename_i off cs hf hx;cases h;exact uw _ hf hx rfl hg hn kk
  ·cases h
 |indexAddr t x i=>
  simp only[exec]at h;split at h
  ·rename_i e S B S' rows q z ht hx hi;cases hS:Nat.beq S' S with
   |false=>rw[hS]at h;cases h
   |true=>
    rw[hS]at h;have:=afJ hS;subst this;simp only[afN]at h;split at h
    ·rename_i row hr;cases h;exact ux ht hx hi (Int.natCast_nonneg z) hr hg hn kk
    ·cases h
  ·rename_i e S B p S' lo len q z ht hx hi;cases hS:Nat.beq S' S&&Nat.blt z len with
   |false=>rw[hS]at h;cases h
   |true=>
    rw[hS]at h;simp only[afv]at hS;have:=afJ hS.1;subst this;have hlt:z<len:=by have:=hS.2;simp[Nat.blt]at this;omega
    cases h;exact uy ht hx hi (Int.natCast_nonneg z) (Int.ofNat_lt.2 hlt) hg hn kk
  ·exact E6 hg hn h kk
 |index t x i=>
  simp only[exec]at h;split at h
  ·rename_i r hr;cases h;exact Cq hg hn hr kk
  ·exact dp hg hn h kk
 |typeAssert x xt at' ok=>simp only[exec]at h;exact Ae hg hn h kk
 |slice t x lo hi mo=>
  simp only[exec]at h;split at h
  ·rename_i r hr;cases h;exact Cn hg hn hr kk
  ·exact dp hg hn h kk
 |makeMap t r=>
  cases r with
  |none=>simp only[exec]at h;cases h;exact ko ob.length (λi hi=>afO hi) (λkf kk=>G8 hg hn kk) kk
  |some r=>simp only[exec]at h;exact dp hg hn h kk
 |makeSlice t x y=>
  simp only[exec]at h;split at h
  ·rename_i e S B kl a kc c ht hx hy;split at h
   ·rename_i zs hz;cases hc:Nat.beq zs.length S&&Nat.blt 0 S&&Nat.ble a c&&Nat.ble (B*c) 281474976710656&&Nat.ble c maxLen with
    |false=>rw[hc]at h;cases h
    |true=>
     rw[hc]at h;simp only[afv]at hc;obtain⟨⟨⟨⟨c1,c2⟩,c3⟩,c4⟩,c5⟩:=hc;have hS:0<S:=by simp[Nat.blt]at c2;omega
     cases h;exact ko ob.length (λi hi=>afO hi) (λkf kk=>Cc ht hz (afJ c1) hS hx hy (Int.natCast_nonneg a) (Int.ofNat_le.2<|nbl c3) (nbl c4) (nbl c5) hg hn kk) kk
   ·cases h
  ·cases h
 |mapUpdate t x y z=>simp only[exec]at h;exact oX hg hn (.inl rfl) h kk
 |insert t x y z=>simp only[exec]at h;exact oX hg hn (.inr rfl) h kk
 |lookup t x y ok=>
  simp only[exec]at h;split at h
  ·rename_i r hr;cases h;exact Ad hg hn hr kk
  ·exact dp hg hn h kk
 |convert s d x=>
  simp only[exec]at h;split at h
  ·rename_i r hr;cases h;exact Hn hg hn hr kk
  ·split at h
   ·rename_i r hr;cases h;exact Cp hg hn hr kk
   ·split at h
    ·rename_i r hr;cases h;exact Ho hg hn hr kk
    ·split at h
     ·rename_i r hr;cases h;exact Hp hg hn hr kk
     ·split at h
      ·rename_i r hr;cases h;exact Hq hg hn hr kk
      ·exact dp hg hn h kk
 |makeInterface t x=>
  simp only[exec]at h;split at h
  ·rename_i av ht hx;cases h;exact PJ ht hx hg hn kk
  ·cases h
 |makeFunc f fs cs=>
  simp only[exec]at h;split at h
  ·rename_i aS xs bs ys h1 h2;cases h;have e1:fs=fs.toList.toArray:=by simp
   have e2:cs=cs.toList.toArray:=by simp
   rw[e1,e2];exact PL (jE h1) (jE h2) hg hn kk
  ·cases h
 |extract x i=>
  simp only[exec]at h;split at h
  ·rename_i vs hx;split at h
   ·rename_i av hv;cases h;exact G4 hx hv hg hn kk
   ·cases h
  ·cases h
 |binOp op t x y t'=>
  simp only[exec]at h;split at h
  ·rename_i r hr;cases h;exact Hl hg hn hr kk
  ·split at h
   ·rename_i r hr;cases h;exact Ab hg hn hr kk
   ·split at h
    ·rename_i r hr;cases h;exact Nd hg hn hr kk
    ·split at h
     ·rename_i r hr;cases h;exact Hr hg hn hr kk
     ·exact dp hg hn h kk
 |call c=>
  obtain⟨callee,args,ts⟩:=c;simp only[exec]at h;have e1:args=args.toList.toArray:=by simp
  have e2:ts=ts.toList.toArray:=by simp
  split at h
  ·rename_i x y t tx ha htt;rw[ha]at e1;rw[htt]at e2;subst e1;subst e2;split at h
   ·rename_i r hr;cases h;exact Ac hg hn hr kk
   ·exact wZ hg hn h kk
  ·rename_i x t ha htt;rw[ha]at e1;rw[htt]at e2;subst e1;subst e2;split at h
   ·rename_i r hr;cases h;exact Hm hg hn hr kk
   ·exact dp hg hn h kk
  ·rename_i x ha;rw[ha]at e1;subst e1;split at h
   ·rename_i r hr;cases h;exact Co hg hn hr kk
   ·exact dp hg hn h kk
  ·rename_i x y pt it ha htt;rw[ha]at e1;rw[htt]at e2;subst e1;subst e2;split at h
   ·rename_i r hr;cases h;exact E5 hg hn hr kk
   ·exact dp hg hn h kk
  ·exact dp hg hn h kk
  ·cases h
 |_=>simp only[exec]at h;exact dp hg hn h kk
theorem Cr{x:Operand}{lo:Option Operand}{hi mo:Operand}{t e:TypeId}{S B:Nat}{rows:List lXF}{p q mx:Nat}{xl xh xm:List (Operand×AV)}(ht:slk P t=some (e,S,B))(hx:aX L x=some (.sl S rows))(hl:Bd L 0 lo p xl)(hh:Bd L rows.length (some hi) q xh)(hm:Bd L 0 (some mo) mx xm)(h1:p<=q)(h2:q=mx)(h3:mx<=rows.length)(hg:Gd ops L guard gu)(hn: ∀d,dst=some d->d<n){l:List Oper}{kf:List Rec->Loc->lXE->Prop}(kk:EvK P n ops l (cN L dst (.cl S<|(rows.drop p).take<|q-p) []) ob (λrecs=>kf<|⟨dst,gu++cg (xl++(xh++(xm++ [(x,.sl S rows)]))),.cl S ((rows.drop p).take<|q-p),[],.pure⟩::recs)):EvK P n ops (⟨dst,.slice t x lo (some hi) (some mo),ty,pos,after,guard⟩::l) L ob kf:=
 cK (o:=⟨dst,.slice t x lo (some hi) (some mo),ty,pos,after,guard⟩) (xl++(xh++(xm++ [(x,.sl S rows)]))) (jL hl<|jL hh<|jL hm ⟨hx,trivial⟩) hg hn (λm γ w a _ h=>by
  obtain⟨k1,h⟩:=jM hl h;obtain⟨k2,h⟩:=jM hh h;obtain⟨k3,h⟩:=jM hm h;have h5:=h.1;simp only[Rep]at h5;obtain⟨ad,len,cap,e1,e2,e3,e4⟩:=h5;subst e2;subst h2;have hr:=kZ (P:=P) ht w ad rows.length cap p q q (lo.map a.eval) (some<|a.eval hi) (some<|a.eval mo) (by
   grind) (by
   simp_all) (by
   simp_all) h1 (afG _) oaa
  refine⟨_,by simp only[execOp,e1,afV,Sem.run_bind,hr,Result.andThen_ok,Sem.run_pure];rfl,?_⟩;simp only[Rep];refine⟨_,_,rfl,by simp;omega,?_⟩;by_cases hpq:p=q
  ·left;subst hpq;simp
  grind[jw,jv,fq]) kk
theorem iZ{α β:Type}{P:Program}: ∀{s:Sem α}{a:α}{k:α->Sem β},ey P s=some a->ey P (s>>=k)=ey P (k a):=by
 intro s;induction s with
 |pure a=>intro b k h;simp only[ey,afD]at h;subst h;rfl
 |program f ih=>intro b k h;exact ih P h
 |mark m f ih=>intro b k h;exact ih h
 |_=>intro b k h;cases h
theorem xd(hg:Gd ops L guard gu)(hn: ∀d,dst=some d->d<n){op:Op}{t:TypeId}{x y z:Operand}{i:Option Nat}(hop:op= .mapUpdate t x y z\/op= .insert t x y z)(h:putE P (aX L) t x y z (λi=>ob[i]?) i dec=some (true,out)):Steps P n ops L gu ⟨dst,op,ty,pos,after,guard⟩ ob out:=by
 intro l kf kk;unfold putE at h;split at h
 ·rename_i kt vt d o k av ht hx hy hz;split at h
  ·rename_i keys vals ho;simp only[afD,afW]at h;obtain⟨h1,rfl⟩:=h;obtain⟨c1,c2,c3⟩:=aH.1 h1;exact AD hop ht hx hy hz ho c1 c2 c3 hg hn kk
  ·cases h
 ·cases h
theorem Ht(hg:Gd ops L guard gu)(hn: ∀d,dst=some d->d<n){op:Op}{g:Gi}(h:E0 P (aX L) ty op (λi=>ob[i]?) g=some (true,out)):Steps P n ops L gu ⟨dst,op,ty,pos,after,guard⟩ ob out:=by
 unfold E0 at h;split at h
 ·intro l kf kk;rename_i t x lo hi mo;split at h
  ·rename_i e S B S' rows h1 h2;split at h
   ·rename_i p xl q xh mx xm h3 h4 h5;simp only[afD,afW,afv]at h;obtain⟨⟨c1,c2⟩,rfl⟩:=h;have:=afJ c1;subst this;obtain⟨c3,c4,c5⟩:=aH.1 c2;exact Cr h1 h2 (lu h3) (lu h4) (lu h5) c3 c4 c5 hg hn kk
   ·cases h
  ·cases h
 ·intro l kf kk;split at h
  ·rename_i rows h1;simp only[afD,afW,afv]at h;obtain⟨⟨c1,c2⟩,rfl⟩:=h;obtain⟨c3,vs,c4,c5⟩:=aH.1 c2;exact ac3 c1 h1 (by intro q hq;cases hq) oaI c4 c5 c3 hg hn kk
  ·cases h
 ·intro l kf kk;rename_i s d x r;split at h
  ·rename_i v h1;simp only[afD,afW]at h;obtain⟨c1,rfl⟩:=h;have c1:=aH.1 c1;have:=iG (P:=P) (n:=n) (ops:=ops) (l:=l) (L:=L) (ob:=ob) (kf:=kf) (gu:=gu) (o:=⟨dst,.convert s d x,ty,pos,after,guard⟩) (xs:=[x]) (r:=r) rfl (by simp[hU,h1,fc]) (by
    have e:lj (aX L) x=v:=by simp[lj,h1,fc]
    simp only[execOp,e];exact(iZ c1).trans rfl) hg hn
   refine this ?_;have e2:dI (aX L) x=(x,.v v):=by simp[dI,h1]
   simpa [e2,Dl.app]using kk
  ·cases h
 ·intro l kf kk;rename_i c r;obtain⟨callee,args,ts⟩:=c;have e1:args=args.toList.toArray:=by simp
  simp only at h;split at h
  ·rename_i b x ha;split at h
   ·rename_i v h1;simp only[afD,afW]at h;obtain⟨c1,rfl⟩:=h;have c1:=aH.1 c1;rw[ha]at e1;subst e1;have:=iG (P:=P) (n:=n) (ops:=ops) (l:=l) (L:=L) (ob:=ob) (kf:=kf) (gu:=gu) (o:=⟨dst,.call ⟨.builtin b,#[x],ts⟩,ty,pos,after,guard⟩) (xs:=[x]) (r:=r) rfl (by simp[hU,h1,fc]) (by
     have e:lj (aX L) x=v:=by simp[lj,h1,fc]
     rw[<-c1];cases x<;>simp[execOp,resolve,e,EZ]<;>rfl) hg hn
    refine this ?_;have e2:dI (aX L) x=(x,.v v):=by simp[dI,h1]
    simpa [e2,Dl.app]using kk
   ·cases h
  ·rename_i b x y ha;split at h
   ·rename_i v u h1 h2;simp only[afD,afW]at h;obtain⟨c1,rfl⟩:=h;have c1:=aH.1 c1;rw[ha]at e1;subst e1;have:=iG (P:=P) (n:=n) (ops:=ops) (l:=l) (L:=L) (ob:=ob) (kf:=kf) (gu:=gu) (o:=⟨dst,.call ⟨.builtin b,#[x,y],ts⟩,ty,pos,after,guard⟩) (xs:=[x,y]) (r:=r) rfl (by simp[hU,h1,h2,fc]) (by
     have e:lj (aX L) x=v:=by simp[lj,h1,fc]
     have e':lj (aX L) y=u:=by simp[lj,h2,fc]
     rw[<-c1];cases x<;>cases y<;>simp[execOp,resolve,e,e',EZ]<;>rfl) hg hn
    refine this ?_;have e2:dI (aX L) x=(x,.v v):=by simp[dI,h1]
    have e3:dI (aX L) y=(y,.v u):=by simp[dI,h2]
    simpa [e2,e3,Dl.app]using kk
   ·cases h
  ·cases h
 ·rename_i c;obtain⟨callee,args,ts⟩:=c;have e1:args=args.toList.toArray:=by simp
  simp only at h;split at h
  ·rename_i x ha;rw[ha]at e1;subst e1;split at h
   ·rename_i o lo len hx;simp only[afD,afW]at h;obtain⟨c1,rfl⟩:=h;intro l kf kk;exact qJ hx (aH.1 c1) hg hn kk
   ·cases h
  ·cases h
 ·rename_i c zs;obtain⟨callee,args,ts⟩:=c;have e1:args=args.toList.toArray:=by simp
  have e2:ts=ts.toList.toArray:=by simp
  simp only at h;split at h
  ·rename_i x y pt it ha ht;rw[ha]at e1;rw[ht]at e2;subst e1;subst e2;split at h
   ·rename_i e o k hp hx hy;split at h
    ·rename_i e2 rows ho;simp only[afD,afW]at h;obtain⟨c1,rfl⟩:=h;obtain⟨rfl,q2,q3,q4,q5,q6,vs,q7,q8⟩:=aH.1 c1;intro l kf kk;exact mF hp q2 hx hy ho q3 q4 q7 q8 (by rw[q6];exact Nat.beq_refl k) q5 hg hn kk
    ·cases h
   ·cases h
  ·cases h
 ·intro l kf kk;rename_i b t x y p r;split at h
  ·rename_i v u h1 h2;simp only[afD,afW]at h;obtain⟨c1,rfl⟩:=h;have c1:=aH.1 c1;have:=iG (P:=P) (n:=n) (ops:=ops) (l:=l) (L:=L) (ob:=ob) (kf:=kf) (gu:=gu) (o:=⟨dst,.binOp b t x y p,ty,pos,after,guard⟩) (xs:=[x,y]) (r:=r) rfl (by simp[hU,h1,h2,fc]) (by
    have e:lj (aX L) x=v:=by simp[lj,h1,fc]
    have e':lj (aX L) y=u:=by simp[lj,h2,fc]
    simp only[execOp,e,e'];exact(iZ c1).trans rfl) hg hn
   refine this ?_;have e2:dI (aX L) x=(x,.v v):=by simp[dI,h1]
   have e3:dI (aX L) y=(y,.v u):=by simp[dI,h2]
   simpa [e2,e3,Dl.app]using kk
  ·cases h
 ·intro l kf kk;rename_i t x i r;split at h
  ·rename_i v u h1 h2;simp only[afD,afW]at h;obtain⟨c1,rfl⟩:=h;have c1:=aH.1 c1;have:=iG (P:=P) (n:=n) (ops:=ops) (l:=l) (L:=L) (ob:=ob) (kf:=kf) (gu:=gu) (o:=⟨dst,.index t x i,ty,pos,after,guard⟩) (xs:=[x,i]) (r:=r) rfl (by simp[hU,h1,h2,fc]) (by
    have e:lj (aX L) x=v:=by simp[lj,h1,fc]
    have e':lj (aX L) i=u:=by simp[lj,h2,fc]
    simp only[execOp,e,e'];exact(iZ c1).trans rfl) hg hn
   refine this ?_;have e2:dI (aX L) x=(x,.v v):=by simp[dI,h1]
   have e3:dI (aX L) i=(i,.v u):=by simp[dI,h2]
   simpa [e2,e3,Dl.app]using kk
  ·cases h
 ·exact xd hg hn (.inl rfl) h
 ·exact xd hg hn (.inr rfl) h
 ·intro l kf kk;split at h
  ·rename_i kt vt d o k ht hx hy;split at h
   ·rename_i keys vals z ho hz;simp only[afD,afW]at h;obtain⟨h1,rfl⟩:=h;obtain⟨⟨c1,_,c3⟩,c4⟩:=aH.1 h1;exact AE ht hz hx hy ho c1 c3 c4 hg hn kk
   ·cases h
  ·cases h
 ·cases h
end
end Go.Am
end
