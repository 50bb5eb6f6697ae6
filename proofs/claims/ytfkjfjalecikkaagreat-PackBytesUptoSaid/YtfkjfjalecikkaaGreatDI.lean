/- PackBytes returns true for every net of bulk at most 1048576, and the net reads behind the call as it read before. Rules, small parts of edges behind a writer's bytes. Sets and acts behind a writer's bytes. Edges, states behind a writer's bytes. A net's bytes. An abstract machine, part V: from a contract by abstract values, seeing no object, to a call from the world in which a statement begins. Nets that are handed in, as they stand in memory. Which nets may be: both answers are the same. How many bytes a net has; what a net that may be gives. The law package's own small function wakes, run by the evaluator, returns true. law.PackBytes. -/
import Derived.RowKit3
import Derived.ReadAgain
import Derived.OpenShut
import Derived.DataElems
import Derived.WalkKit
import Derived.ProofKit
import Derived.Deep.DeepHandedRow
import Derived.Lib.LaidTab
import Derived.JoinedCond
import Derived.Deep.CondSized
import Derived.Test.YtfkjfjalecikkaaGreatDH
set_option linter.defProp false
open Go.IntKind (wrap)
noncomputable section
open List (length map range replicate)
set_option maxRecDepth 100000
namespace Go.Proofs.YtfkjfjalecikkaaGreat
open Go.Am
def wob3(bs:lXA):lXE:=[.box 50 [.sr 1 1 0 bs.length],rB bs,.box 48 [.pt 0 0]]
def Zw(bs:lXA):lXE:=[.box 50 [.sr 3 1 0 bs.length],.dead,.box 48 [.pt 0 0],rB bs]
def CH(f:FuncId)(args:lXF)(bs bs':lXA):Prop:=aY pg f args (wob3 bs) [] (.tu []) (Zw bs')
section
variable{f:FuncId}{args args0:lXF}{O:lXE}{p q s k N:Nat}{bs bs':lXA}{c:Prop}
theorem gW3(hf:Nat.blt f dQ=true)(hp:O[p]? =some (.box 50 [.sr q 1 0 k]))(hq:O[q]? =some (rB bs))(hs:O[s]? =some (.box 48 [.pt p 0]))(hne:p≠q/\p≠s/\q≠s)(hN:N=O.length)(ha:bt (bM [p,q,s] N) args0=args)(h:c->k=bs.length/\CH f args0 bs bs'):(iWr f args O p q N bs' c).bS pg:=λhc=>⟨kR hf (by
 obtain⟨hk,hw⟩:=h hc;have hr: ∀g(l:lXA),de g (l.map u8C)=l.map u8C:=λg l=>by have:=cv (T:=5) (S:=1) (f:=g) (Gc l);simpa [Ob.ren]using this
 have k:=oF hw (sel:=[p,q,s]) (ob:=O) (by simp[hne.1,hne.2.1,hne.2.2]) (by
  refine⟨⟨?_,by simp⟩,⟨?_,by simp⟩,⟨?_,by simp⟩,trivial⟩
  ·rw[hp,hk];simp[Ob.ren,bt,AV.ren,bM]
  ·rw[hq];simp[Ob.ren,hr]
  ·rw[hs];simp[Ob.ren,bt,AV.ren,bM]) (by simp[Zw])
 rw[<-hN,ha]at k;subst hN;have hb: ∀X Y:Ob,((O.set p X).set q Y).set s (.box 48 [.pt p 0])=(O.set p X).set q Y:=λX Y=>by
  refine agd λi=> ?_;by_cases e:s=i
  ·subst e;rw[agi (by have:=(afR.1 hs).1;simpa using this),af5 hne.2.2,af5 hne.2.1,hs]
  ·rw[af5 e]
 simpa [iWr,Zw,back,gH,eu,bt,AV.ren,bM,Ob.ren,hr,hb]using k),λi hi=>acV hN hi⟩
theorem gW3a(h:c->k=bs.length/\CH f args0 bs bs')(hf:Nat.blt f dQ=true:=by rfl)(hs:O[s]? =some (.box 48 [.pt p 0]):=by rfl)(hp:O[p]? =some (.box 50 [.sr q 1 0 k]):=by rfl)(hq:O[q]? =some (rB bs):=by rfl)(hne:p≠q/\p≠s/\q≠s:=by decide)(hN:N=O.length:=by rfl)(ha:bt (bM [p,q,s] N) args0=args:=by simp[bt,AV.ren,bM,eC,gi,AV.pure,aj,ak]):(iWr f args O p q N bs' c).bS pg:=gW3 hf hp hq hs hne hN ha h
end
def PR(bs:lXA)(r:bI):bH:=iWr 20 [.pt 0 0,S r.name] [.box 50 [.sr 1 1 0 (length bs)],.row 5 1 (map u8C bs)] 0 1 2 (bs++(az r.name)) ((length bs)=length bs/\(bs++(az r.name)).length<=140737488355328/\True)
def PS:Code:=oM 0 (aG 22)
def cH(bs:lXA)(r:bI):Int:=(bif r.bN then(bif r.eF then(bif r.lazy then(bif r.left then 15 else 7)else(bif r.left then 11 else 3))else(bif r.lazy then(bif r.left then 13 else 5)else(bif r.left then 9 else 1)))else(bif r.eF then(bif r.lazy then(bif r.left then 14 else 6)else(bif r.left then 10 else 2))else(bif r.lazy then(bif r.left then 12 else 4)else(bif r.left then 8 else 0))))
abbrev Ar(bs:lXA)(r:bI)(y0:Int):Am.Loc:=[(0,.pt 0 0),(3,.pf (aC r)),(4,.v (.int .u8 y0))]
section
variable(bs:lXA)(r:bI)
abbrev zCN:lXE:=[.box 50 [.sr 2 1 0 (length<|bs++(az r.name))],.dead,.row 5 1 (map u8C<|bs++(az r.name))]
abbrev H8:lXE:=(zCN bs r)
def sC:KB:=⟨[(0,.pt 0 0),(3,.pf (aC r)),(4,.v (.int .u8 0)),(21,.sl 1 [(aA r.bN),(aA r.eF),(aA r.lazy),(aA r.left)]),(22,I 4),(23,I 0)],(zCN bs r),false,.ret,[],[],.normal,Ar bs r (cH bs r),H8 bs r,True⟩
def fx:List bf:=jnW (cH bs r) (Ar bs r) 3 (H8 bs r) [15,7,11,3,13,5,9,1,14,6,10,2,12,4,8,0]
end
abbrev zBi(r:bI):List Gi:=[.row (aA r.left),bT]
section
variable(bs:lXA)(r:bI)
def Lt(hL:(bs++cp r).length<=140737488355200):cx pg 63 2 0 PS (sC bs r):=jnB (k:=3) (Ar bs r) [15,7,11,3,13,5,9,1,14,6,10,2,12,4,8,0] (.more<|.r [.k,bT]<|.r [.row (aA r.bN),bT]<|.r [bT]<|.br (.r [bT]<|.r [.int 1,bT]<|.r [.k,bT]<|.r [.row (aA r.eF),bT]<|.r [bT]<|.br (.r [bT]<|.r [.int 2,bT]<|.r [.k,bT]<|.r [.row (aA r.lazy),bT]<|.r [bT]<|.br (.r [bT]<|.r [.int 3,bT]<|.r [.k,bT]<|.r (zBi r)<|.r [bT]<|.br (.r [bT]<|.r [.int 4,bT] zAs)<|.r [.int 4,bT]<|.r [.k,bT]<|.pick 1)<|.r [.int 3,bT]<|.r [.k,bT]<|.r (zBi r)<|.r [bT]<|.br (.r [bT]<|.r [.int 4,bT]<|.r [.k,bT]<|.pick 2)<|.r [.int 4,bT]<|.r [.k,bT]<|.pick 3)<|.r [.int 2,bT]<|.r [.k,bT]<|.r [.row (aA r.lazy),bT]<|.r [bT]<|.br (.r [bT]<|.r [.int 3,bT]<|.r [.k,bT]<|.r (zBi r)<|.r [bT]<|.br (.r [bT]<|.r [.int 4,bT]<|.r [.k,bT]<|.pick 4)<|.r [.int 4,bT]<|.r [.k,bT]<|.pick 5)<|.r [.int 3,bT]<|.r [.k,bT]<|.r (zBi r)<|.r [bT]<|.br (.r [bT]<|.r [.int 4,bT]<|.r [.k,bT]<|.pick 6)<|.r [.int 4,bT]<|.r [.k,bT]<|.pick 7)<|.r [.int 1,bT]<|.r [.k,bT]<|.r [.row (aA r.eF),bT]<|.r [bT]<|.br (.r [bT]<|.r [.int 2,bT]<|.r [.k,bT]<|.r [.row (aA r.lazy),bT]<|.r [bT]<|.br (.r [bT]<|.r [.int 3,bT]<|.r [.k,bT]<|.r (zBi r)<|.r [bT]<|.br (.r [bT]<|.r [.int 4,bT]<|.r [.k,bT]<|.pick 8)<|.r [.int 4,bT]<|.r [.k,bT]<|.pick 9)<|.r [.int 3,bT]<|.r [.k,bT]<|.r (zBi r)<|.r [bT]<|.br (.r [bT]<|.r [.int 4,bT]<|.r [.k,bT]<|.pick 10)<|.r [.int 4,bT]<|.r [.k,bT]<|.pick 11)<|.r [.int 2,bT]<|.r [.k,bT]<|.r [.row (aA r.lazy),bT]<|.r [bT]<|.br (.r [bT]<|.r [.int 3,bT]<|.r [.k,bT]<|.r (zBi r)<|.r [bT]<|.br (.r [bT]<|.r [.int 4,bT]<|.r [.k,bT]<|.pick 12)<|.r [.int 4,bT]<|.r [.k,bT]<|.pick 13)<|.r [.int 3,bT]<|.r [.k,bT]<|.r (zBi r)<|.r [bT]<|.br (.r [bT]<|.r [.int 4,bT]<|.r [.k,bT]<|.pick 14)<|.r [.int 4,bT]<|.r [.k,bT]<|.pick 15) (λ_=>have hL2:bs.length+(az r.name).length+1+(ai r.mode).length+(ai r.type).length+(ai r.start).length+(ai r.stop).length<=140737488355200:=oaV;bB (an (a1 a0)<|an (ac (bQ<|some<|aA r.bN) a0)<|an a0<|brP (λ(h0:(r.bN)=true)=>(an a0<|an (ac (bQ (1:Int)) a0)<|an (a1 a0)<|an (ac (bQ<|some<|aA r.eF) a0)<|an a0<|brP (λ(h1:(r.eF)=true)=>(an a0<|an (ac (bQ (2:Int)) a0)<|an (a1 a0)<|an (ac (bQ<|some<|aA r.lazy) a0)<|an a0<|brP (λ(h2:(r.lazy)=true)=>(an a0<|an (ac (bQ (3:Int)) a0)<|an (a1 a0)<|an (ac (bQ<|some<|aA r.left) a0)<|an a0<|brP (λ(h3:(r.left)=true)=>(an a0<|an (ac (bQ (4:Int)) a0)<|an (a1 a0)<|lf (wy (fx bs r) 0) 3<|cdT h0<|cdT h1<|cdT h2<|cdT h3 rfl))<|λh3=>(an (ac (bQ (4:Int)) a0)<|an (a1 a0)<|lf (wy (fx bs r) 1) 3<|cdT h0<|cdT h1<|cdT h2<|cdF h3 rfl)))<|λh2=>(an (ac (bQ (3:Int)) a0)<|an (a1 a0)<|an (ac (bQ<|some<|aA r.left) a0)<|an a0<|brP (λ(h3:(r.left)=true)=>(an a0<|an (ac (bQ (4:Int)) a0)<|an (a1 a0)<|lf (wy (fx bs r) 2) 3<|cdT h0<|cdT h1<|cdF h2<|cdT h3 rfl))<|λh3=>(an (ac (bQ (4:Int)) a0)<|an (a1 a0)<|lf (wy (fx bs r) 3) 3<|cdT h0<|cdT h1<|cdF h2<|cdF h3 rfl))))<|λh1=>(an (ac (bQ (2:Int)) a0)<|an (a1 a0)<|an (ac (bQ<|some<|aA r.lazy) a0)<|an a0<|brP (λ(h2:(r.lazy)=true)=>(an a0<|an (ac (bQ (3:Int)) a0)<|an (a1 a0)<|an (ac (bQ<|some<|aA r.left) a0)<|an a0<|brP (λ(h3:(r.left)=true)=>(an a0<|an (ac (bQ (4:Int)) a0)<|an (a1 a0)<|lf (wy (fx bs r) 4) 3<|cdT h0<|cdF h1<|cdT h2<|cdT h3 rfl))<|λh3=>(an (ac (bQ (4:Int)) a0)<|an (a1 a0)<|lf (wy (fx bs r) 5) 3<|cdT h0<|cdF h1<|cdT h2<|cdF h3 rfl)))<|λh2=>(an (ac (bQ (3:Int)) a0)<|an (a1 a0)<|an (ac (bQ<|some<|aA r.left) a0)<|an a0<|brP (λ(h3:(r.left)=true)=>(an a0<|an (ac (bQ (4:Int)) a0)<|an (a1 a0)<|lf (wy (fx bs r) 6) 3<|cdT h0<|cdF h1<|cdF h2<|cdT h3 rfl))<|λh3=>(an (ac (bQ (4:Int)) a0)<|an (a1 a0)<|lf (wy (fx bs r) 7) 3<|cdT h0<|cdF h1<|cdF h2<|cdF h3 rfl)))))<|λh0=>(an (ac (bQ (1:Int)) a0)<|an (a1 a0)<|an (ac (bQ<|some<|aA r.eF) a0)<|an a0<|brP (λ(h1:(r.eF)=true)=>(an a0<|an (ac (bQ (2:Int)) a0)<|an (a1 a0)<|an (ac (bQ<|some<|aA r.lazy) a0)<|an a0<|brP (λ(h2:(r.lazy)=true)=>(an a0<|an (ac (bQ (3:Int)) a0)<|an (a1 a0)<|an (ac (bQ<|some<|aA r.left) a0)<|an a0<|brP (λ(h3:(r.left)=true)=>(an a0<|an (ac (bQ (4:Int)) a0)<|an (a1 a0)<|lf (wy (fx bs r) 8) 3<|cdF h0<|cdT h1<|cdT h2<|cdT h3 rfl))<|λh3=>(an (ac (bQ (4:Int)) a0)<|an (a1 a0)<|lf (wy (fx bs r) 9) 3<|cdF h0<|cdT h1<|cdT h2<|cdF h3 rfl)))<|λh2=>(an (ac (bQ (3:Int)) a0)<|an (a1 a0)<|an (ac (bQ<|some<|aA r.left) a0)<|an a0<|brP (λ(h3:(r.left)=true)=>(an a0<|an (ac (bQ (4:Int)) a0)<|an (a1 a0)<|lf (wy (fx bs r) 10) 3<|cdF h0<|cdT h1<|cdF h2<|cdT h3 rfl))<|λh3=>(an (ac (bQ (4:Int)) a0)<|an (a1 a0)<|lf (wy (fx bs r) 11) 3<|cdF h0<|cdT h1<|cdF h2<|cdF h3 rfl))))<|λh1=>(an (ac (bQ (2:Int)) a0)<|an (a1 a0)<|an (ac (bQ<|some<|aA r.lazy) a0)<|an a0<|brP (λ(h2:(r.lazy)=true)=>(an a0<|an (ac (bQ (3:Int)) a0)<|an (a1 a0)<|an (ac (bQ<|some<|aA r.left) a0)<|an a0<|brP (λ(h3:(r.left)=true)=>(an a0<|an (ac (bQ (4:Int)) a0)<|an (a1 a0)<|lf (wy (fx bs r) 12) 3<|cdF h0<|cdF h1<|cdT h2<|cdT h3 rfl))<|λh3=>(an (ac (bQ (4:Int)) a0)<|an (a1 a0)<|lf (wy (fx bs r) 13) 3<|cdF h0<|cdF h1<|cdT h2<|cdF h3 rfl)))<|λh2=>(an (ac (bQ (3:Int)) a0)<|an (a1 a0)<|an (ac (bQ<|some<|aA r.left) a0)<|an a0<|brP (λ(h3:(r.left)=true)=>(an a0<|an (ac (bQ (4:Int)) a0)<|an (a1 a0)<|lf (wy (fx bs r) 14) 3<|cdF h0<|cdF h1<|cdF h2<|cdT h3 rfl))<|λh3=>(an (ac (bQ (4:Int)) a0)<|an (a1 a0)<|lf (wy (fx bs r) 15) 3<|cdF h0<|cdF h1<|cdF h2<|cdF h3 rfl)))))
 oab)
def PT:bH:=iWr 51 [.pt 0 0,I r.mode] [.box 50 [.sr 3 1 0 (length (bs++(az r.name))+1)],.dead,.dead,.row 5 1 (map u8C<|(bs++(az r.name))++ [(cH bs r)])] 0 3 4 (((bs++(az r.name))++ [(cH bs r)])++(ai r.mode)) ((length (bs++(az r.name))+1)=length ((bs++(az r.name))++ [(cH bs r)])/\(((bs++(az r.name))++ [(cH bs r)])++(ai r.mode)).length<=140737488355328/\True)
def PU:bH:=iWr 51 [.pt 0 0,I r.type] [.box 50 [.sr 4 1 0 (length<|((bs++(az r.name))++ [(cH bs r)])++(ai r.mode))],.dead,.dead,.dead,.row 5 1 (map u8C<|((bs++(az r.name))++ [(cH bs r)])++(ai r.mode))] 0 4 5 ((((bs++(az r.name))++ [(cH bs r)])++(ai r.mode))++(ai r.type)) ((length<|((bs++(az r.name))++ [(cH bs r)])++(ai r.mode))=length (((bs++(az r.name))++ [(cH bs r)])++(ai r.mode))/\((((bs++(az r.name))++ [(cH bs r)])++(ai r.mode))++(ai r.type)).length<=140737488355328/\True)
def PV:bH:=iWr 51 [.pt 0 0,I r.start] [.box 50 [.sr 5 1 0 (length<|(((bs++(az r.name))++ [(cH bs r)])++(ai r.mode))++(ai r.type))],.dead,.dead,.dead,.dead,.row 5 1 (map u8C<|(((bs++(az r.name))++ [(cH bs r)])++(ai r.mode))++(ai r.type))] 0 5 6 (((((bs++(az r.name))++ [(cH bs r)])++(ai r.mode))++(ai r.type))++(ai r.start)) ((length<|(((bs++(az r.name))++ [(cH bs r)])++(ai r.mode))++(ai r.type))=length ((((bs++(az r.name))++ [(cH bs r)])++(ai r.mode))++(ai r.type))/\(((((bs++(az r.name))++ [(cH bs r)])++(ai r.mode))++(ai r.type))++(ai r.start)).length<=140737488355328/\True)
def PW:bH:=iWr 51 [.pt 0 0,I r.stop] [.box 50 [.sr 6 1 0 (length<|((((bs++(az r.name))++ [(cH bs r)])++(ai r.mode))++(ai r.type))++(ai r.start))],.dead,.dead,.dead,.dead,.dead,.row 5 1 (map u8C<|((((bs++(az r.name))++ [(cH bs r)])++(ai r.mode))++(ai r.type))++(ai r.start))] 0 6 7 ((((((bs++(az r.name))++ [(cH bs r)])++(ai r.mode))++(ai r.type))++(ai r.start))++(ai r.stop)) ((length<|((((bs++(az r.name))++ [(cH bs r)])++(ai r.mode))++(ai r.type))++(ai r.start))=length (((((bs++(az r.name))++ [(cH bs r)])++(ai r.mode))++(ai r.type))++(ai r.start))/\((((((bs++(az r.name))++ [(cH bs r)])++(ai r.mode))++(ai r.type))++(ai r.start))++(ai r.stop)).length<=140737488355328/\True)
def H9:Nat×lXA:=(length ((((((bs++(az r.name))++ [(cH bs r)])++(ai r.mode))++(ai r.type))++(ai r.start))++(ai r.stop)),(((((bs++(az r.name))++ [(cH bs r)])++(ai r.mode))++(ai r.type))++(ai r.start))++(ai r.stop))
end
def Zx(y:Nat×lXA):Am.Loc:=[]
def As(bs:lXA)(r:bI)(y:Nat×lXA):lXE:=(zL y)
def Zy(bs:lXA)(r:bI):List ((Nat×lXA)×AX×lXC):=[((length ((((((bs++(az r.name))++ [(cH bs r)])++(ai r.mode))++(ai r.type))++(ai r.start))++(ai r.stop)),(((((bs++(az r.name))++ [(cH bs r)])++(ai r.mode))++(ai r.type))++(ai r.start))++(ai r.stop)),.normal,[0,1,7])]
def ae9(bs:lXA)(r:bI):List bf:=((Zy bs r).map λw=>(⟨H9 bs r=w.1,w.2.1,Zx w.1,w.2.2,As bs r w.1⟩:bf))
def pd:di [0] (aG 22)=[(0,PS)]:=by kernel_rfl
section
variable(bs:lXA)
theorem afa(r:bI)(hL:(bs++cp r).length<=140737488355200):aY pg 22 [.pt 0 0,.ag (aC r)] (zC bs) [] (.tu []) (As bs r<|H9 bs r):=have hL2:bs.length+(az r.name).length+1+(ai r.mode).length+(ai r.type).length+(ai r.start).length+(ai r.stop).length<=140737488355200:=oaV;cZ (ob0:=(zC bs)) (fn:=Tryz.f22) (callf:=(cz [PR bs r,PT bs r,PU bs r,PV bs r,PW bs r] base)) (pu:=cU) (lf:=3000) (l:=[(0,sC bs r)]) (t:=(.r [bT]<|.r [.bG 0 [],bT]<|.r [bT]<|.r [bT]<|.no<|.r [bT]<|.r [bT]<|.more<|.r [.k,bT]<|.r [.row (ba r.mode),bT]<|.r [.bG 1 [],bT]<|.r [.int 1,bT]<|.r [.k,bT]<|.r [.row (ba r.type),bT]<|.r [.bG 2 [],bT]<|.r [.int 2,bT]<|.r [.k,bT]<|.r [.row (ba r.start),bT]<|.r [.bG 3 [],bT]<|.r [.int 3,bT]<|.r [.k,bT]<|.r [.row (ba r.stop),bT]<|.r [.bG 4 [],bT]<|.r [.int 4,bT] zAs)) (bC (.cons (ft λc=>⟨c.1,mT bs r.name c.2.1⟩)<|.cons (ft λc=>⟨c.1,cN ((bs++(az r.name))++ [(cH bs r)]) r.mode c.2.1⟩)<|.cons (ft λc=>⟨c.1,cN (((bs++(az r.name))++ [(cH bs r)])++(ai r.mode)) r.type c.2.1⟩)<|.cons (ft λc=>⟨c.1,cN ((((bs++(az r.name))++ [(cH bs r)])++(ai r.mode))++(ai r.type)) r.start c.2.1⟩)<|.cons (ft λc=>⟨c.1,cN (((((bs++(az r.name))++ [(cH bs r)])++(ai r.mode))++(ai r.type))++(ai r.start)) r.stop c.2.1⟩) dg.nil) aE) mixed Tryz.func22 oab (show Tryz.f22.body=some (aG 22) by kernel_rfl) (nbl rfl) (bw (l:=[(0,sC bs r)]) pd (aK (Lt bs r hL) rfl aU) rfl) rfl Zx (As bs r) (H9 bs r) (Zy bs r) (nbl rfl) rfl (by simp[As,Ob.und,AV.und,bx,bj cn]) (bB (an a0<|an (ac (qWd<|PR bs r) a0)<|an a0<|an a0<|an (kbT (sC bs r) trivial)<|an (rfl:false=false)<|an (ac (apo (length<|bs++(az r.name)) 1 (rl u8C<|bs++(az r.name)) (h2:=oai) (h3:=oai)) a0)<|an a0<|an (a1 a0)<|an (ac (bQ<|some<|ba r.mode) a0)<|an (ac (qW (c:=PT bs r) ⟨oaC,oai,trivial⟩<|aW (rfl:(.box 50 [.sr 3 1 0 (length (bs++(az r.name))+1)]:Ob)= .box 50 [.sr 3 1 0 (length (bs++(az r.name))+1)])<|aW (rfl:(.dead:Ob)= .dead)<|aW (rfl:(.dead:Ob)= .dead)<|aW (af1 (λz=>Ob.row 5 1 z)<|apF (f:=u8C) (rl u8C<|bs++(az r.name)) (k:=length<|bs++(az r.name)) oad<|cH bs r) ee) a0)<|an (ac (bQ (1:Int)) a0)<|an (a1 a0)<|an (ac (bQ<|some<|ba r.type) a0)<|an (ac (qWd<|PU bs r) a0)<|an (ac (bQ (2:Int)) a0)<|an (a1 a0)<|an (ac (bQ<|some<|ba r.start) a0)<|an (ac (qWd<|PV bs r) a0)<|an (ac (bQ (3:Int)) a0)<|an (a1 a0)<|an (ac (bQ<|some<|ba r.stop) a0)<|an (ac (qWd<|PW bs r) a0)<|an (ac (bQ (4:Int)) a0)<|an (a1 a0)<|lf (wy (ae9 bs r) 0) 8 rfl) oab) (fa1 (.inl rfl) fa0) (fa1 (bV rfl rfl rfl rfl<|by simp[As,plS,plO,AV.pure,aj,ak]) fa0) rfl
theorem afb(r:bI):cH bs r=cX r:=rfl
theorem Lu(r:bI)(hL:(bs++cp r).length<=140737488355200):ga 22 [.pt 0 0,.ag (aC r)] bs (bs++cp r):=by
 have h:=afa bs r hL;have e:H9 bs r=((bs++cp r).length,bs++cp r):=by simp[H9,cp,afb]
 rw[e]at h;exact h
def PX(e:Edge):bH:=iWr 51 [.pt 0 0,I e.n] [.box 50 [.sr 1 1 0 (length bs)],.row 5 1 (map u8C bs)] 0 1 2 (bs++(ai e.n)) ((length bs)=length bs/\(bs++(ai e.n)).length<=140737488355328/\True)
def PY(e:Edge):bH:=iWr 51 [.pt 0 0,I e.level] [.box 50 [.sr 2 1 0 (length<|bs++(ai e.n))],.dead,.row 5 1 (map u8C<|bs++(ai e.n))] 0 2 3 ((bs++(ai e.n))++(ai e.level)) ((length<|bs++(ai e.n))=length (bs++(ai e.n))/\((bs++(ai e.n))++(ai e.level)).length<=140737488355328/\True)
def Ia(e:Edge):Nat×lXA:=(length ((bs++(ai e.n))++(ai e.level)),(bs++(ai e.n))++(ai e.level))
end
def Zz(y:Nat×lXA):Am.Loc:=[]
def At(bs:lXA)(e:Edge)(y:Nat×lXA):lXE:=(zL y)
def ZA(bs:lXA)(e:Edge):List ((Nat×lXA)×AX×lXC):=[((length ((bs++(ai e.n))++(ai e.level)),(bs++(ai e.n))++(ai e.level)),.normal,[0,1,3])]
def afc(bs:lXA)(e:Edge):List bf:=((ZA bs e).map λw=>(⟨Ia bs e=w.1,w.2.1,Zz w.1,w.2.2,At bs e w.1⟩:bf))
abbrev zBK:GT:=(.r [bT]<|.r [.bG 0 [],bT] zCe)
section
variable(bs:lXA)(e:Edge)
theorem abJ(hL:(bs++(ai e.n++ai e.level)).length<=140737488355200):aY pg 82 [.pt 0 0,.ag (aQ e)] (zC bs) [] (.tu []) (At bs e<|Ia bs e):=have hL2:bs.length+(ai e.n).length+(ai e.level).length<=140737488355200:=oaO;cZ (ob0:=(zC bs)) (fn:=Tryz.f82) (callf:=(cz [PX bs e,PY bs e] base)) (pu:=cU) (lf:=3000) (l:=[]) (t:=zBK) (bC (.cons (ft λc=>⟨c.1,cN bs e.n c.2.1⟩)<|.cons (ft λc=>⟨c.1,cN (bs++(ai e.n)) e.level c.2.1⟩) dg.nil) aE) mixed Tryz.func82 oab (show Tryz.f82.body=some (aG 82) by kernel_rfl) (nbl rfl) (bq _) rfl Zz (At bs e) (Ia bs e) (ZA bs e) (nbl rfl) rfl (by simp[At,Ob.und,AV.und,bx,bj cn]) (bB (an a0<|an (ac (qWd<|PX bs e) a0)<|an (ac (qWd<|PY bs e) a0)<|lf (wy (afc bs e) 0) 4 rfl) oab) (fa1 (.inl rfl) fa0) (fa1 (bV rfl rfl rfl rfl<|by simp[At,plS,plO,AV.pure,aj,ak]) fa0) rfl
theorem Ib(hL:(bs++(ai e.n++ai e.level)).length<=140737488355200):ga 82 [.pt 0 0,.ag (aQ e)] bs (bs++(ai e.n++ai e.level)):=by
 have h:=abJ bs e hL;have e:Ia bs e=((bs++(ai e.n++ai e.level)).length,bs++(ai e.n++ai e.level)):=by simp[Ia]
 rw[e]at h;exact h
def PZ:bH:=iWr 51 [.pt 0 0,I e.n] [.box 50 [.sr 1 1 0 (length bs)],.row 5 1 (map u8C bs)] 0 1 2 (bs++(ai e.n)) ((length bs)=length bs/\(bs++(ai e.n)).length<=140737488355328/\True)
def Ic:Nat×lXA:=(length (bs++(ai e.n)),bs++(ai e.n))
end
def ZB(y:Nat×lXA):Am.Loc:=[]
def Au(bs:lXA)(e:Edge)(y:Nat×lXA):lXE:=(zL y)
def ZC(bs:lXA)(e:Edge):List ((Nat×lXA)×AX×lXC):=[((length (bs++(ai e.n)),bs++(ai e.n)),.normal,[0,1,2])]
def afd(bs:lXA)(e:Edge):List bf:=((ZC bs e).map λw=>(⟨Ic bs e=w.1,w.2.1,ZB w.1,w.2.2,Au bs e w.1⟩:bf))
abbrev zBQ:GT:=(.r [bT]<|.r [.bG 0 [],bT]<|.pick 0)
section
variable(bs:lXA)(e:Edge)
theorem alt84(hL:(bs++ai e.n).length<=140737488355200):aY pg 84 [.pt 0 0,.ag (aQ e)] (zC bs) [] (.tu []) (Au bs e<|Ic bs e):=have hL2:bs.length+(ai e.n).length<=140737488355200:=oaO;cZ (ob0:=(zC bs)) (fn:=Tryz.f84) (callf:=(cz [PZ bs e] base)) (pu:=cU) (lf:=3000) (l:=[]) (t:=zBQ) (bC (.cons (ft λc=>⟨c.1,cN bs e.n c.2.1⟩) dg.nil) aE) mixed Tryz.func84 oab (show Tryz.f84.body=some (aG 84) by kernel_rfl) (nbl rfl) (bq _) rfl ZB (Au bs e) (Ic bs e) (ZC bs e) (nbl rfl) rfl (by simp[Au,Ob.und,AV.und,bx,bj cn]) (bB (an a0<|an (ac (qWd<|PZ bs e) a0)<|lf (wy (afd bs e) 0) 3 rfl) oab) (fa1 (.inl rfl) fa0) (fa1 (bV rfl rfl rfl rfl<|by simp[Au,plS,plO,AV.pure,aj,ak]) fa0) rfl
theorem R5(hL:(bs++ai e.n).length<=140737488355200):ga 84 [.pt 0 0,.ag (aQ e)] bs (bs++ai e.n):=by
 have h:=alt84 bs e hL;have e:Ic bs e=((bs++ai e.n).length,bs++ai e.n):=by simp[Ic]
 rw[e]at h;exact h
def P0:bH:=iWr 115 [.pt 0 0,.ag (gCC e.g)] [.box 50 [.sr 1 1 0 (length bs)],.row 5 1 (map u8C bs)] 0 1 2 (bs++(aM e.g)) ((length bs)=length bs/\(bs++(aM e.g)).length<=140737488355312/\(dV e.g/\u7 e.g))
def Ie:Nat×lXA:=(length (bs++(aM e.g)),bs++(aM e.g))
end
def ZD(y:Nat×lXA):Am.Loc:=[]
def Av(bs:lXA)(e:Edge)(y:Nat×lXA):lXE:=(zL y)
section
variable(bs:lXA)(e:Edge)
def ZE:List ((Nat×lXA)×AX×lXC):=[((length (bs++(aM e.g)),bs++(aM e.g)),.normal,[0,1,2])]
def afe:List bf:=((ZE bs e).map λw=>(⟨Ie bs e=w.1,w.2.1,ZD w.1,w.2.2,Av bs e w.1⟩:bf))
theorem R6(hg:dV e.g)(hn:u7 e.g)(hL:(bs++aM e.g).length<=140737488355200):aY pg 83 [.pt 0 0,.ag (aQ e)] (zC bs) [] (.tu []) (Av bs e<|Ie bs e):=have hL2:bs.length+(aM e.g).length<=140737488355200:=oaO;cZ (ob0:=(zC bs)) (fn:=Tryz.f83) (callf:=(cz [P0 bs e] base)) (pu:=cU) (lf:=3000) (l:=[]) (t:=zBQ) (bC (.cons (ft λc=>⟨c.1,H7 e.g c.2.2.1 c.2.2.2 bs c.2.1⟩) dg.nil) aE) mixed Tryz.func83 oab (show Tryz.f83.body=some (aG 83) by kernel_rfl) (nbl rfl) (bq _) rfl ZD (Av bs e) (Ie bs e) (ZE bs e) (nbl rfl) rfl (by simp[Av,Ob.und,AV.und,bx,bj cn]) (bB (an a0<|an (ac (qW (c:=P0 bs e) ⟨rfl,oai,⟨hg,hn⟩⟩ rfl) a0)<|lf (wy (afe bs e) 0) 3 rfl) oab) (fa1 (.inl rfl) fa0) (fa1 (bV rfl rfl rfl rfl<|by simp[Av,plS,plO,AV.pure,aj,ak]) fa0) rfl
theorem Bi(hg:dV e.g)(hn:u7 e.g)(hL:(bs++aM e.g).length<=140737488355200):ga 83 [.pt 0 0,.ag (aQ e)] bs (bs++aM e.g):=by
 have h:=R6 bs e hg hn hL;have e:Ie bs e=((bs++aM e.g).length,bs++aM e.g):=by simp[Ie]
 rw[e]at h;exact h
end
def cu(r:Int×Int):lXA:=ai (wrap .i64 r.1)++ai (wrap .i64<|wrap .i64 r.2-wrap .i64 r.1)
section
variable(bs:lXA)(x:Int×Int)
def P1:bH:=iWr 51 [.pt 0 0,I (wrap .i64<|(x).1)] [.box 50 [.sr 1 1 0 (length bs)],.row 5 1 (map u8C bs),.box 48 [.pt 0 0]] 0 1 3 (bs++(ai<|wrap .i64<|(x).1)) ((length bs)=length bs/\(bs++(ai<|wrap .i64<|(x).1)).length<=140737488355328/\True)
def P2:bH:=iWr 51 [.pt 0 0,I (wrap .i64<|wrap .i64 ((x).2)-wrap .i64 ((x).1))] [.box 50 [.sr 3 1 0 (length<|bs++(ai<|wrap .i64<|(x).1))],.dead,.box 48 [.pt 0 0],.row 5 1 (map u8C<|bs++(ai<|wrap .i64<|(x).1))] 0 3 4 ((bs++(ai<|wrap .i64<|(x).1))++(ai<|wrap .i64<|wrap .i64 ((x).2)-wrap .i64 ((x).1))) ((length<|bs++(ai<|wrap .i64<|(x).1))=length (bs++(ai<|wrap .i64<|(x).1))/\((bs++(ai<|wrap .i64<|(x).1))++(ai<|wrap .i64<|wrap .i64 ((x).2)-wrap .i64 ((x).1))).length<=140737488355328/\True)
def Ig:Nat×lXA:=(length ((bs++(ai<|wrap .i64<|(x).1))++(ai<|wrap .i64<|wrap .i64 ((x).2)-wrap .i64 ((x).1))),(bs++(ai<|wrap .i64<|(x).1))++(ai<|wrap .i64<|wrap .i64 ((x).2)-wrap .i64 ((x).1)))
end
def ZF(y:Nat×lXA):Am.Loc:=[]
abbrev zAg(y:Nat×lXA):lXE:=[.box 50 [.sr 3 1 0 y.1],.dead,.box 48 [.pt 0 0],.row 5 1 (map u8C y.2)]
def Aw(bs:lXA)(x:Int×Int)(y:Nat×lXA):lXE:=(zAg y)
section
variable(bs:lXA)
def ZG(x:Int×Int):List ((Nat×lXA)×AX×lXC):=[((length ((bs++(ai<|wrap .i64<|(x).1))++(ai<|wrap .i64<|wrap .i64 ((x).2)-wrap .i64 ((x).1))),(bs++(ai<|wrap .i64<|(x).1))++(ai<|wrap .i64<|wrap .i64 ((x).2)-wrap .i64 ((x).1))),.normal,[0,1,2,4])]
def aff(x:Int×Int):List bf:=((ZG bs x).map λw=>(⟨Ig bs x=w.1,w.2.1,ZF w.1,w.2.2,Aw bs x w.1⟩:bf))
abbrev zc:lXE:=[.box 50 [.sr 1 1 0 (length bs)],.row 5 1 (map u8C bs),.box 48 [.pt 0 0]]
section
variable(x:Int×Int)
theorem afg(hL:(bs++cu x).length<=140737488355200):aY pg 114 [.ag (aP x),.pt 2 0] (zc bs) [] (.tu []) (Aw bs x<|Ig bs x):=have hL2:bs.length+(ai<|wrap .i64 x.1).length+(ai<|wrap .i64<|wrap .i64 x.2-wrap .i64 x.1).length<=140737488355200:=(by have:=hL;simp only[cu,afQ]at this;omega);cZ (ob0:=(zc bs)) (fn:=Tryz.f114) (callf:=(cz [P1 bs x,P2 bs x] base)) (pu:=cU) (lf:=3000) (l:=[]) (t:=(.r [bT]<|.r [.bG 0 [],bT]<|.r [.int (wrap .i64<|wrap .i64 ((x).2)-wrap .i64 ((x).1)),.bG 1 [],bT]<|.pick 0)) (bC (.cons (ft λc=>⟨c.1,cN bs (wrap .i64<|(x).1) c.2.1⟩)<|.cons (ft λc=>⟨c.1,cN (bs++(ai<|wrap .i64<|(x).1)) (wrap .i64<|wrap .i64 ((x).2)-wrap .i64 ((x).1)) c.2.1⟩) dg.nil) aE) mixed Tryz.func114 oab (show Tryz.f114.body=some (aG 114) by kernel_rfl) (nbl rfl) (bq _) rfl ZF (Aw bs x) (Ig bs x) (ZG bs x) (nbl rfl) rfl (by simp[Aw,Ob.und,AV.und,bx,bj cn]) (bB (an a0<|an (ac (qWd<|P1 bs x) a0)<|an (ac (qWd<|P2 bs x)<|ac (bQ<|wrap .i64<|wrap .i64 ((x).2)-wrap .i64 ((x).1)) a0)<|lf (wy (aff bs x) 0) 5 rfl) oab) (fa1 (.inl rfl) fa0) (fa1 (bV rfl rfl rfl rfl<|by simp[Aw,plS,plO,AV.pure,aj,ak]) fa0) rfl
theorem Lv(hL:(bs++cu x).length<=140737488355200):CH 114 [.ag (aP x),.pt 2 0] bs (bs++cu x):=by
 have h:=afg bs x hL;have e:Ig bs x=((bs++cu x).length,bs++cu x):=by simp[Ig,cu]
 rw[e]at h;exact h
def P3:bH:=iWr 51 [.pt 0 0,I (wrap .i64<|(x).1)] [.box 50 [.sr 1 1 0 (length bs)],.row 5 1 (map u8C bs),.box 48 [.pt 0 0]] 0 1 3 (bs++(ai<|wrap .i64<|(x).1)) ((length bs)=length bs/\(bs++(ai<|wrap .i64<|(x).1)).length<=140737488355328/\True)
def P4:bH:=iWr 51 [.pt 0 0,I ((x).2)] [.box 50 [.sr 3 1 0 (length<|bs++(ai<|wrap .i64<|(x).1))],.dead,.box 48 [.pt 0 0],.row 5 1 (map u8C<|bs++(ai<|wrap .i64<|(x).1))] 0 3 4 ((bs++(ai<|wrap .i64<|(x).1))++(ai<|(x).2)) ((length<|bs++(ai<|wrap .i64<|(x).1))=length (bs++(ai<|wrap .i64<|(x).1))/\((bs++(ai<|wrap .i64<|(x).1))++(ai<|(x).2)).length<=140737488355328/\True)
def Ih:Nat×lXA:=(length ((bs++(ai<|wrap .i64<|(x).1))++(ai<|(x).2)),(bs++(ai<|wrap .i64<|(x).1))++(ai<|(x).2))
end
end
def ZH(y:Nat×lXA):Am.Loc:=[]
def Ax(bs:lXA)(x:Int×Int)(y:Nat×lXA):lXE:=(zAg y)
section
variable(bs:lXA)(x:Int×Int)
def ZI:List ((Nat×lXA)×AX×lXC):=[((length ((bs++(ai<|wrap .i64<|(x).1))++(ai<|(x).2)),(bs++(ai<|wrap .i64<|(x).1))++(ai<|(x).2)),.normal,[0,1,2,4])]
def afh:List bf:=((ZI bs x).map λw=>(⟨Ih bs x=w.1,w.2.1,ZH w.1,w.2.2,Ax bs x w.1⟩:bf))
theorem afi(hL:(bs++dY x).length<=140737488355200):aY pg 117 [.ag (cO x),.pt 2 0] (zc bs) [] (.tu []) (Ax bs x<|Ih bs x):=have hL2:bs.length+(ai<|wrap .i64 x.1).length+(ai x.2).length<=140737488355200:=(by have:=hL;simp only[dY,afQ]at this;omega);cZ (ob0:=(zc bs)) (fn:=Tryz.f117) (callf:=(cz [P3 bs x,P4 bs x] base)) (pu:=cU) (lf:=3000) (l:=[]) (t:=zBK) (bC (.cons (ft λc=>⟨c.1,cN bs (wrap .i64<|(x).1) c.2.1⟩)<|.cons (ft λc=>⟨c.1,cN (bs++(ai<|wrap .i64<|(x).1)) ((x).2) c.2.1⟩) dg.nil) aE) mixed Tryz.func117 oab (show Tryz.f117.body=some (aG 117) by kernel_rfl) (nbl rfl) (bq _) rfl ZH (Ax bs x) (Ih bs x) (ZI bs x) (nbl rfl) rfl (by simp[Ax,Ob.und,AV.und,bx,bj cn]) (bB (an a0<|an (ac (qWd<|P3 bs x) a0)<|an (ac (qWd<|P4 bs x) a0)<|lf (wy (afh bs x) 0) 5 rfl) oab) (fa1 (.inl rfl) fa0) (fa1 (bV rfl rfl rfl rfl<|by simp[Ax,plS,plO,AV.pure,aj,ak]) fa0) rfl
theorem Lw(hL:(bs++dY x).length<=140737488355200):CH 117 [.ag (cO x),.pt 2 0] bs (bs++dY x):=by
 have h:=afi bs x hL;have e:Ih bs x=((bs++dY x).length,bs++dY x):=by simp[Ih,dY]
 rw[e]at h;exact h
end
def P5(bs:lXA)(l:List (Int×Int)):bH:=iWr 51 [.pt 0 0,I (length (map aP l):Int)] [.box 50 [.sr 1 1 0 (length bs)],.row 5 1 (map u8C bs),.box 48 [.pt 0 0]] 0 1 3 (bs++(ai (length (map aP l):Int))) ((length bs)=length bs/\(bs++(ai (length (map aP l):Int))).length<=140737488355328/\True)
def P6:Code:=bD 0 (aG 113)
def Ay(bs:lXA)(l:List (Int×Int))(i0:Nat)(y0:lXA):lXA:=y0++(cu<|ae l i0)
section
variable(bs:lXA)(l:List (Int×Int))
def dN(kk:Nat):lXA:=Nat.rec (motive:=λ_=>lXA) (bs++(ai (length (map aP l):Int))) (λj a=>Ay bs l j a) kk
theorem CI(i:Nat)(hi:i<=l.length):dN bs l i=bs++ai (length (map aP l):Int)++(l.take i).flatMap cu:=by
 induction i with
 |zero=>show bs++ai (length (map aP l):Int)=_;simp
 |succ i ih=>show Ay bs l i (dN bs l i)=_;rw[ih oaa,c8 cu l oaa];simp[Ay]
def P7(i0:Nat):bH:=iWr 114 [.ag (aP<|ae l i0),.pt 2 0] [.box 50 [.sr 3 1 0 (length<|dN bs l i0)],.dead,.box 48 [.pt 0 0],.row 5 1 (map u8C<|dN bs l i0),.box 98 (aP<|ae l i0)] 0 3 5 ((dN bs l i0)++(cu<|ae l i0)) ((length<|dN bs l i0)=length (dN bs l i0)/\((dN bs l i0)++(cu<|ae l i0)).length<=140737488355200/\True)
end
abbrev zCW(y0:lXA):lXE:=[.box 50 [.sr 3 1 0 (length y0)],.dead,.box 48 [.pt 0 0],.row 5 1 (map u8C y0)]
abbrev Az(bs:lXA)(l:List (Int×Int))(i0:Nat)(y0:lXA):lXE:=(zCW y0)
abbrev vJ(bs:lXA)(l:List (Int×Int))(i0:Nat):Am.Loc:=[(2,.fn (.func 114) [] [.pt 2 0]),(12,.sl 2 (map aP l)),(13,I (length (map aP l):Int)),(14,I (i0:Int))]
abbrev P8(bs:lXA)(l:List (Int×Int))(i0:Nat):lXE:=Az bs l i0 (dN bs l i0)
abbrev Ii(bs:lXA)(l:List (Int×Int)):Am.Loc:=[]
section
variable(bs:lXA)(l:List (Int×Int))
abbrev Ij:lXE:=[.box 50 [.sr 3 1 0 (length<|dN bs l<|length l)],.dead,.box 48 [.pt 0 0],.row 5 1 (map u8C<|dN bs l<|length l)]
def sD:KB:=noK 0 (vJ bs l) (P8 bs l) (.exit 0) (Ii bs l) (Ij bs l) (True)
abbrev P9(i0:Nat):List bf:=[nxW (false) (vJ bs l<|i0+1) (P8 bs l<|i0+1) (vJ bs l<|i0+1) [0,1,2,5] (Az bs l (i0+1)<|(dN bs l i0)++(cu<|ae l i0))]
def Ly(ls:length l<=9223372036854775807)(hL:(bs++ay cu l).length<=140737488355200):cx pg 22 3 0 (.loop P6) (sD bs l):=
 noB (P9 bs l) (λi0=>(.r [.k,bT]<|.yes<|.r [.row (aP<|ae l i0),bT]<|zBV i0)) (range 4) zE (length l)
 (λ_ i0(hx0:i0<(length l))=>have lml:=aL aP l;have hL3:bs.length+(ai (length (map aP l):Int)).length+(List.flatMap cu l).length<=140737488355200:=oaf;have ha:=CI bs l i0 (agx hx0);have hfl:=fL cu l hx0;have ha2:length (dN bs l i0)=bs.length+(ai (length (map aP l):Int)).length+(List.flatMap cu<|List.take i0 l).length:=oak;have l1:=aL aP (l);have hb:(decide<|(i0:Int)<(length (map aP l):Int))=true:=afT oaa;
 bB (an (a1 a0)<|an hb<|an (ac (rwa aP l i0) a0)<|an (ac (qWd<|P7 bs l i0) a0)<|an (ac (dwo ((i0+1:Nat):Int)) a0)<|lf (wy (P9 bs l i0) 0) 6<|nxP (λ_=>vJ bs l<|i0+1) (Az bs l<|i0+1) rfl<|show dN bs l (i0+1)=((dN bs l i0)++(cu<|ae l i0))from rfl)
 oab)
 (λ_=>have lml:=aL aP l;have hL3:bs.length+(ai (length (map aP l):Int)).length+(List.flatMap cu l).length<=140737488355200:=oaf;have l1:=aL aP (l);have hb:(decide<|(((length l):Nat):Int)<(length (map aP l):Int))=false:=afU oaa;
 bB (an (a1 a0)<|an hb<|lx (.exit 0) (Ii bs l) (range 4) (Ij bs l) 4)
 oab) (callf:=λi0=>(cz [P7 bs l i0] base)) (hc:=λ_ i0 hx0=>(bC (.cons (gW3a (s:=2) λc=>⟨c.1,Lv (dN bs l i0) (ae l i0) c.2.1⟩) dg.nil) aE))
def Ik:Nat×lXA:=(length (dN bs l<|length l),(dN bs l<|length l))
end
def ZJ(y:Nat×lXA):Am.Loc:=[]
def AA(bs:lXA)(l:List (Int×Int))(y:Nat×lXA):lXE:=(zAg y)
section
variable(bs:lXA)(l:List (Int×Int))
def ZK:List ((Nat×lXA)×AX×lXC):=[((length (dN bs l<|length l),(dN bs l<|length l)),.normal,[0,1,2,3])]
def afj:List bf:=((ZK bs l).map λw=>(⟨Ik bs l=w.1,w.2.1,ZJ w.1,w.2.2,AA bs l w.1⟩:bf))
end
def pe:di [0] (aG 113)=[(0,.loop P6)]:=by kernel_rfl
section
variable(bs:lXA)(l:List (Int×Int))
theorem abK(ls:length l<=9223372036854775807)(hL:(bs++ay cu l).length<=140737488355200):aY pg 113 [.pt 0 0,.sl 2 (map aP l),.fn (.func 114) [] [.pt 2 0]] (zc bs) [] (.tu []) (AA bs l<|Ik bs l):=have lml:=aL aP l;have hL3:bs.length+(ai (length (map aP l):Int)).length+(List.flatMap cu l).length<=140737488355200:=oaf;cZ (ob0:=(zc bs)) (fn:=Tryz.f113) (callf:=(cz [P5 bs l] base)) (pu:=cU) (lf:=3000) (l:=[(0,sD bs l)]) (t:=zu) (bC (.cons (ft λc=>⟨c.1,cN bs (length (map aP l):Int) c.2.1⟩) dg.nil) aE) mixed Tryz.func113 oab (show Tryz.f113.body=some (aG 113) by kernel_rfl) (nbl rfl) (bw (l:=[(0,sD bs l)]) pe (aK (Ly bs l ls hL) rfl aU) rfl) rfl ZJ (AA bs l) (Ik bs l) (ZK bs l) (nbl rfl) rfl (by simp[AA,Ob.und,AV.und,bx,bj cn]) (bB (an (ac (qWd<|P5 bs l) a0)<|an a0<|an (kbT (sD bs l) trivial)<|an (rfl:false=false)<|lf (wy (afj bs l) 0) 4 rfl) oab) (fa1 (.inl rfl) fa0) (fa1 (bV rfl rfl rfl rfl<|by simp[AA,plS,plO,AV.pure,aj,ak]) fa0) rfl
theorem Il(ls:length l<=9223372036854775807)(hL:(bs++ay cu l).length<=140737488355200):CH 113 [.pt 0 0,.sl 2 (l.map aP),.fn (.func 114) [] [.pt 2 0]] bs (bs++ay cu l):=by
 have h:=abK bs l ls hL;have e:Ik bs l=((bs++ay cu l).length,bs++ay cu l):=by unfold Ik;rw[CI bs l _ (afP _),agj];simp[ay]
 rw[e]at h;exact h
def Qa:bH:=iWr 51 [.pt 0 0,I (length (map cO l):Int)] [.box 50 [.sr 1 1 0 (length bs)],.row 5 1 (map u8C bs),.box 48 [.pt 0 0]] 0 1 3 (bs++(ai (length (map cO l):Int))) ((length bs)=length bs/\(bs++(ai (length (map cO l):Int))).length<=140737488355328/\True)
end
def Qb:Code:=bD 0 (aG 116)
def AB(bs:lXA)(l:List (Int×Int))(i0:Nat)(y0:lXA):lXA:=y0++(dY<|ae l i0)
section
variable(bs:lXA)(l:List (Int×Int))
def dO(kk:Nat):lXA:=Nat.rec (motive:=λ_=>lXA) (bs++(ai (length (map cO l):Int))) (λj a=>AB bs l j a) kk
theorem CJ(i:Nat)(hi:i<=l.length):dO bs l i=bs++ai (length (map cO l):Int)++(l.take i).flatMap dY:=by
 induction i with
 |zero=>show bs++ai (length (map cO l):Int)=_;simp
 |succ i ih=>show AB bs l i (dO bs l i)=_;rw[ih oaa,c8 dY l oaa];simp[AB]
def Qc(i0:Nat):bH:=iWr 117 [.ag (cO<|ae l i0),.pt 2 0] [.box 50 [.sr 3 1 0 (length<|dO bs l i0)],.dead,.box 48 [.pt 0 0],.row 5 1 (map u8C<|dO bs l i0),.box 114 (cO<|ae l i0)] 0 3 5 ((dO bs l i0)++(dY<|ae l i0)) ((length<|dO bs l i0)=length (dO bs l i0)/\((dO bs l i0)++(dY<|ae l i0)).length<=140737488355200/\True)
end
abbrev AD(bs:lXA)(l:List (Int×Int))(i0:Nat)(y0:lXA):lXE:=(zCW y0)
abbrev vK(bs:lXA)(l:List (Int×Int))(i0:Nat):Am.Loc:=[(2,.fn (.func 117) [] [.pt 2 0]),(12,.sl 2 (map cO l)),(13,I (length (map cO l):Int)),(14,I (i0:Int))]
abbrev Qd(bs:lXA)(l:List (Int×Int))(i0:Nat):lXE:=AD bs l i0 (dO bs l i0)
abbrev Im(bs:lXA)(l:List (Int×Int)):Am.Loc:=[]
section
variable(bs:lXA)(l:List (Int×Int))
abbrev Io:lXE:=[.box 50 [.sr 3 1 0 (length<|dO bs l<|length l)],.dead,.box 48 [.pt 0 0],.row 5 1 (map u8C<|dO bs l<|length l)]
def sE:KB:=noK 0 (vK bs l) (Qd bs l) (.exit 0) (Im bs l) (Io bs l) (True)
abbrev Qe(i0:Nat):List bf:=[nxW (false) (vK bs l<|i0+1) (Qd bs l<|i0+1) (vK bs l<|i0+1) [0,1,2,5] (AD bs l (i0+1)<|(dO bs l i0)++(dY<|ae l i0))]
def Lz(ls:length l<=9223372036854775807)(hL:(bs++ay dY l).length<=140737488355200):cx pg 22 3 0 (.loop Qb) (sE bs l):=
 noB (Qe bs l) (λi0=>(.r [.k,bT]<|.yes<|.r [.row (cO<|ae l i0),bT]<|zBV i0)) (range 4) zE (length l)
 (λ_ i0(hx0:i0<(length l))=>have lml:=aL cO l;have hL3:bs.length+(ai (length (map cO l):Int)).length+(List.flatMap dY l).length<=140737488355200:=oaf;have ha:=CJ bs l i0 (agx hx0);have hfl:=fL dY l hx0;have ha2:length (dO bs l i0)=bs.length+(ai (length (map cO l):Int)).length+(List.flatMap dY<|List.take i0 l).length:=oak;have l1:=aL cO (l);have hb:(decide<|(i0:Int)<(length (map cO l):Int))=true:=afT oaa;
 bB (an (a1 a0)<|an hb<|an (ac (rwa cO l i0) a0)<|an (ac (qWd<|Qc bs l i0) a0)<|an (ac (dwo ((i0+1:Nat):Int)) a0)<|lf (wy (Qe bs l i0) 0) 6<|nxP (λ_=>vK bs l<|i0+1) (AD bs l<|i0+1) rfl<|show dO bs l (i0+1)=((dO bs l i0)++(dY<|ae l i0))from rfl)
 oab)
 (λ_=>have lml:=aL cO l;have hL3:bs.length+(ai (length (map cO l):Int)).length+(List.flatMap dY l).length<=140737488355200:=oaf;have l1:=aL cO (l);have hb:(zCt l)=false:=afU oaa;
 bB (an (a1 a0)<|an hb<|lx (.exit 0) (Im bs l) (range 4) (Io bs l) 4)
 oab) (callf:=λi0=>(cz [Qc bs l i0] base)) (hc:=λ_ i0 hx0=>(bC (.cons (gW3a (s:=2) λc=>⟨c.1,Lw (dO bs l i0) (ae l i0) c.2.1⟩) dg.nil) aE))
def Ip:Nat×lXA:=(length (dO bs l<|length l),(dO bs l<|length l))
end
def ZL(y:Nat×lXA):Am.Loc:=[]
def AE(bs:lXA)(l:List (Int×Int))(y:Nat×lXA):lXE:=(zAg y)
section
variable(bs:lXA)(l:List (Int×Int))
def ZM:List ((Nat×lXA)×AX×lXC):=[((length (dO bs l<|length l),(dO bs l<|length l)),.normal,[0,1,2,3])]
def afk:List bf:=((ZM bs l).map λw=>(⟨Ip bs l=w.1,w.2.1,ZL w.1,w.2.2,AE bs l w.1⟩:bf))
end
def ph:di [0] (aG 116)=[(0,.loop Qb)]:=by kernel_rfl
section
variable(bs:lXA)(l:List (Int×Int))
theorem abL(ls:length l<=9223372036854775807)(hL:(bs++ay dY l).length<=140737488355200):aY pg 116 [.pt 0 0,.sl 2 (map cO l),.fn (.func 117) [] [.pt 2 0]] (zc bs) [] (.tu []) (AE bs l<|Ip bs l):=have lml:=aL cO l;have hL3:bs.length+(ai (length (map cO l):Int)).length+(List.flatMap dY l).length<=140737488355200:=oaf;cZ (ob0:=(zc bs)) (fn:=Tryz.f116) (callf:=(cz [Qa bs l] base)) (pu:=cU) (lf:=3000) (l:=[(0,sE bs l)]) (t:=zu) (bC (.cons (ft λc=>⟨c.1,cN bs (length (map cO l):Int) c.2.1⟩) dg.nil) aE) mixed Tryz.func116 oab (show Tryz.f116.body=some (aG 116) by kernel_rfl) (nbl rfl) (bw (l:=[(0,sE bs l)]) ph (aK (Lz bs l ls hL) rfl aU) rfl) rfl ZL (AE bs l) (Ip bs l) (ZM bs l) (nbl rfl) rfl (by simp[AE,Ob.und,AV.und,bx,bj cn]) (bB (an (ac (qWd<|Qa bs l) a0)<|an a0<|an (kbT (sE bs l) trivial)<|an (rfl:false=false)<|lf (wy (afk bs l) 0) 4 rfl) oab) (fa1 (.inl rfl) fa0) (fa1 (bV rfl rfl rfl rfl<|by simp[AE,plS,plO,AV.pure,aj,ak]) fa0) rfl
theorem Iq(ls:length l<=9223372036854775807)(hL:(bs++ay dY l).length<=140737488355200):CH 116 [.pt 0 0,.sl 2 (l.map cO),.fn (.func 117) [] [.pt 2 0]] bs (bs++ay dY l):=by
 have h:=abL bs l ls hL;have e:Ip bs l=((bs++ay dY l).length,bs++ay dY l):=by unfold Ip;rw[CJ bs l _ (afP _),agj];simp[ay]
 rw[e]at h;exact h
end
def Qf(bs:lXA)(e:Edge):bH:=iWr 113 [.pt 0 0,.sl 2 (map aP e.set),.fn (.func 114) [] [.pt 2 0]] [.box 50 [.sr 1 1 0 (length bs)],.row 5 1 (map u8C bs),.box 48 [.pt 0 0]] 0 1 3 (bs++(ay cu e.set)) ((length bs)=length bs/\(bs++(ay cu e.set)).length<=140737488355200/\True)
def Ir(bs:lXA)(e:Edge):Nat×lXA:=(length (bs++(ay cu e.set)),bs++(ay cu e.set))
def ZN(y:Nat×lXA):Am.Loc:=[]
def AF(bs:lXA)(e:Edge)(y:Nat×lXA):lXE:=(zL y)
section
variable(bs:lXA)(e:Edge)
def ZO:List ((Nat×lXA)×AX×lXC):=[((length (bs++(ay cu e.set)),bs++(ay cu e.set)),.normal,[0,1,3])]
def afl:List bf:=((ZO bs e).map λw=>(⟨Ir bs e=w.1,w.2.1,ZN w.1,w.2.2,AF bs e w.1⟩:bf))
theorem set81(ls:length e.set<=9223372036854775807)(hL:(bs++ay cu e.set).length<=140737488355200):aY pg 81 [.pt 0 0,.ag (aQ e)] (zC bs) [] (.tu []) (AF bs e<|Ir bs e):=have hL2:bs.length+(ay cu e.set).length<=140737488355200:=oaP;cZ (ob0:=(zC bs)) (fn:=Tryz.f81) (callf:=(cz [Qf bs e] base)) (pu:=cU) (lf:=3000) (l:=[]) (t:=zBQ) (bC (.cons (gW3a (s:=2) λc=>⟨c.1,Il bs e.set ls c.2.1⟩) dg.nil) aE) mixed Tryz.func81 oab (show Tryz.f81.body=some (aG 81) by kernel_rfl) (nbl rfl) (bq _) rfl ZN (AF bs e) (Ir bs e) (ZO bs e) (nbl rfl) rfl (by simp[AF,Ob.und,AV.und,bx,bj cn]) (bB (an a0<|an (ac (qWd<|Qf bs e) a0)<|lf (wy (afl bs e) 0) 4 rfl) oab) (fa1 (.inl rfl) fa0) (fa1 (bV rfl rfl rfl rfl<|by simp[AF,plS,plO,AV.pure,aj,ak]) fa0) rfl
theorem R7(ls:length e.set<=9223372036854775807)(hL:(bs++ay cu e.set).length<=140737488355200):ga 81 [.pt 0 0,.ag (aQ e)] bs (bs++ay cu e.set):=by
 have h:=set81 bs e ls hL;have e:Ir bs e=((bs++ay cu e.set).length,bs++ay cu e.set):=by simp[Ir]
 rw[e]at h;exact h
def Qg:bH:=iWr 116 [.pt 0 0,.sl 2 (map cO e.bL),.fn (.func 117) [] [.pt 2 0]] [.box 50 [.sr 1 1 0 (length bs)],.row 5 1 (map u8C bs),.box 48 [.pt 0 0]] 0 1 3 (bs++(ay dY e.bL)) ((length bs)=length bs/\(bs++(ay dY e.bL)).length<=140737488355200/\True)
def Is:Nat×lXA:=(length (bs++(ay dY e.bL)),bs++(ay dY e.bL))
end
def ZP(y:Nat×lXA):Am.Loc:=[]
def AG(bs:lXA)(e:Edge)(y:Nat×lXA):lXE:=(zL y)
section
variable(bs:lXA)(e:Edge)
def ZQ:List ((Nat×lXA)×AX×lXC):=[((length (bs++(ay dY e.bL)),bs++(ay dY e.bL)),.normal,[0,1,3])]
def afm:List bf:=((ZQ bs e).map λw=>(⟨Is bs e=w.1,w.2.1,ZP w.1,w.2.2,AG bs e w.1⟩:bf))
theorem afn(ls:length e.bL<=9223372036854775807)(hL:(bs++ay dY e.bL).length<=140737488355200):aY pg 85 [.pt 0 0,.ag (aQ e)] (zC bs) [] (.tu []) (AG bs e<|Is bs e):=have hL2:bs.length+(ay dY e.bL).length<=140737488355200:=oaP;cZ (ob0:=(zC bs)) (fn:=Tryz.f85) (callf:=(cz [Qg bs e] base)) (pu:=cU) (lf:=3000) (l:=[]) (t:=zBQ) (bC (.cons (gW3a (s:=2) λc=>⟨c.1,Iq bs e.bL ls c.2.1⟩) dg.nil) aE) mixed Tryz.func85 oab (show Tryz.f85.body=some (aG 85) by kernel_rfl) (nbl rfl) (bq _) rfl ZP (AG bs e) (Is bs e) (ZQ bs e) (nbl rfl) rfl (by simp[AG,Ob.und,AV.und,bx,bj cn]) (bB (an a0<|an (ac (qWd<|Qg bs e) a0)<|lf (wy (afm bs e) 0) 4 rfl) oab) (fa1 (.inl rfl) fa0) (fa1 (bV rfl rfl rfl rfl<|by simp[AG,plS,plO,AV.pure,aj,ak]) fa0) rfl
theorem LA(ls:length e.bL<=9223372036854775807)(hL:(bs++ay dY e.bL).length<=140737488355200):ga 85 [.pt 0 0,.ag (aQ e)] bs (bs++ay dY e.bL):=by
 have h:=afn bs e ls hL;have e:Is bs e=((bs++ay dY e.bL).length,bs++ay dY e.bL):=by simp[Is]
 rw[e]at h;exact h
end
def iN(f:FuncId)(args:lXF)(O:lXE)(c:Prop):bH:=⟨f,args,O,.tu [],O,c,0⟩
section
variable{f:FuncId}{args args0:lXF}{O:lXE}{p q k N:Nat}{bs:lXA}{c:Prop}
theorem gN(hf:Nat.blt f dQ=true)(hp:O[p]? =some (.box 50 [.sr q 1 0 k]))(hq:O[q]? =some (rB bs))(hne:p≠q)(hN:N=O.length)(ha:bt (bM [p,q] N) args0=args)(h:c->k=bs.length/\aY pg f args0 (wob bs) [] (.tu []) (wob bs)):(iN f args O c).bS pg:=λhc=>⟨kR hf (by
 obtain⟨hk,hw⟩:=h hc;have hr: ∀g(l:lXA),de g (l.map u8C)=l.map u8C:=λg l=>by have:=cv (T:=5) (S:=1) (f:=g) (Gc l);simpa [Ob.ren]using this
 have k:=oF hw (sel:=[p,q]) (ob:=O) (by simp[hne]) (by
  refine⟨⟨?_,by simp⟩,⟨?_,by simp⟩,trivial⟩
  ·rw[hp,hk];simp[Ob.ren,bt,AV.ren,bM]
  ·rw[hq];simp[Ob.ren,hr]) (by simp[wob])
 rw[<-hN,ha]at k;subst hN;have hb:(O.set p<|.box 50 [.sr q 1 0 bs.length]).set q (rB bs)=O:=by
  refine agd λi=> ?_;by_cases e:q=i
  ·subst e;rw[agi (by have:=(afR.1 hq).1;simpa using this),hq]
  ·rw[af5 e];by_cases e2:p=i
   ·subst e2;rw[agi (afR.1 hp).1,hp,hk]
   ·rw[af5 e2]
 simpa [iN,wob,back,gH,eu,bt,AV.ren,bM,Ob.ren,hr,hb]using k),λ_ _=>rfl⟩
theorem gNa(h:c->k=bs.length/\aY pg f args0 (wob bs) [] (.tu []) (wob bs))(hf:Nat.blt f dQ=true:=by rfl)(hp:O[p]? =some (.box 50 [.sr q 1 0 k]):=by rfl)(hq:O[q]? =some (rB bs):=by rfl)(hne:p≠q:=by decide)(hN:N=O.length:=by rfl)(ha:bt (bM [p,q] N) args0=args:=by simp[bt,AV.ren,bM,eC,gi,AV.pure,aj,ak]):(iN f args O c).bS pg:=gN hf hp hq hne hN ha h
end
structure WE(e:Edge):Prop where
 op:0<=e.op/\e.op<=7
 sl:length e.set<=9223372036854775807
 al:length e.bL<=9223372036854775807
 g:dV e.g
 n:u7 e.g
 set:(e.op==1)=true->ay cu e.set=ay gJ e.set
section
variable{e:Edge}
theorem bw1(he:WE e)(h:(e.op==1)=true):(fv e).length=(ay cu e.set).length:=by rw[he.set h];simp[fv,h]
theorem bw2(h:(e.op==2)=true):(fv e).length=(ai e.n).length+(ai e.level).length:=by have:e.op=2:=eq_of_beq h;simp[fv,this]
theorem bw5(h:(e.op==5)=true):(fv e).length=(ai e.n).length+(ai e.level).length:=by have:e.op=5:=eq_of_beq h;simp[fv,this]
theorem bw4(h:(e.op==4)=true):(fv e).length=(ai e.n).length:=by have:e.op=4:=eq_of_beq h;simp[fv,this]
theorem bw7(this:e.op=7):(fv e).length=(ay dY e.bL).length:=by simp[fv,this]
end
def ZR(bs:lXA)(e:Edge):Nat×lXA:=(length bs,bs)
def ZS(y:Nat×lXA):Am.Loc:=[]
def AH(bs:lXA)(e:Edge)(y:Nat×lXA):lXE:=[.box 50 [.sr 1 1 0 y.1],.row 5 1 (map u8C y.2)]
section
variable(bs:lXA)
def ZT(e:Edge):List ((Nat×lXA)×AX×lXC):=[((length bs,bs),.normal,(range 2))]
section
variable(e:Edge)
def afo:List bf:=((ZT bs e).map λw=>(⟨ZR bs e=w.1,w.2.1,ZS w.1,w.2.2,AH bs e w.1⟩:bf))
theorem afp:aY pg 80 [.pt 0 0,.ag (aQ e)] (zC bs) [] (.tu []) (AH bs e<|ZR bs e):=cZ (ob0:=(zC bs)) (fn:=Tryz.f80) (callf:=base) (pu:=cU) (lf:=3000) (l:=[]) (t:=zB) aE mixed Tryz.func80 oab (show Tryz.f80.body=some (aG 80) by kernel_rfl) (nbl rfl) (bq _) rfl ZS (AH bs e) (ZR bs e) (ZT bs e) (nbl rfl) rfl (by simp[AH,Ob.und,AV.und,bx,bj cn]) (bB (an a0<|lf (wy (afo bs e) 0) 2 rfl) oab) (fa1 (.inl rfl) fa0) (fa1 (bV rfl rfl rfl rfl<|by simp[AH,plS,plO,AV.pure,aj,ak]) fa0) rfl
theorem LB:aY pg 80 [.pt 0 0,.ag (aQ e)] (wob bs) [] (.tu []) (wob bs):=by have h:=afp bs e;exact h
def Qh:bH:=iWr 51 [.pt 0 0,I (wrap .i64 e.op)] [.box 50 [.sr 1 1 0 (length bs)],.row 5 1 (map u8C bs)] 0 1 2 (bs++(ai<|wrap .i64 e.op)) ((length bs)=length bs/\(bs++(ai<|wrap .i64 e.op)).length<=140737488355328/\True)
def Qi:bH:=iWr 51 [.pt 0 0,I e.to] [.box 50 [.sr 2 1 0 (length<|bs++(ai<|wrap .i64 e.op))],.dead,.row 5 1 (map u8C<|bs++(ai<|wrap .i64 e.op))] 0 2 3 ((bs++(ai<|wrap .i64 e.op))++(ai e.to)) ((length<|bs++(ai<|wrap .i64 e.op))=length (bs++(ai<|wrap .i64 e.op))/\((bs++(ai<|wrap .i64 e.op))++(ai e.to)).length<=140737488355328/\True)
def EX:bH:=iN 80 [.pt 0 0,.ag (aQ e)] [.box 50 [.sr 3 1 0 (length<|(bs++(ai<|wrap .i64 e.op))++(ai e.to))],.dead,.dead,.row 5 1 (map u8C<|(bs++(ai<|wrap .i64 e.op))++(ai e.to)),.box 140 [.fn (.func 80) [.pt 0 0] [],.fn (.func 81) [.pt 0 0] [],.fn (.func 82) [.pt 0 0] [],.fn (.func 83) [.pt 0 0] [],.fn (.func 84) [.pt 0 0] [],.fn (.func 82) [.pt 0 0] [],.fn (.func 80) [.pt 0 0] [],.fn (.func 85) [.pt 0 0] []]] ((length<|(bs++(ai<|wrap .i64 e.op))++(ai e.to))=length ((bs++(ai<|wrap .i64 e.op))++(ai e.to)))
def Qj:bH:=iWr 81 [.pt 0 0,.ag (aQ e)] [.box 50 [.sr 3 1 0 (length<|(bs++(ai<|wrap .i64 e.op))++(ai e.to))],.dead,.dead,.row 5 1 (map u8C<|(bs++(ai<|wrap .i64 e.op))++(ai e.to)),.box 140 [.fn (.func 80) [.pt 0 0] [],.fn (.func 81) [.pt 0 0] [],.fn (.func 82) [.pt 0 0] [],.fn (.func 83) [.pt 0 0] [],.fn (.func 84) [.pt 0 0] [],.fn (.func 82) [.pt 0 0] [],.fn (.func 80) [.pt 0 0] [],.fn (.func 85) [.pt 0 0] []]] 0 3 5 (((bs++(ai<|wrap .i64 e.op))++(ai e.to))++(ay cu e.set)) ((length<|(bs++(ai<|wrap .i64 e.op))++(ai e.to))=length ((bs++(ai<|wrap .i64 e.op))++(ai e.to))/\(((bs++(ai<|wrap .i64 e.op))++(ai e.to))++(ay cu e.set)).length<=140737488355200/\True)
def EY:bH:=iWr 82 [.pt 0 0,.ag (aQ e)] [.box 50 [.sr 3 1 0 (length<|(bs++(ai<|wrap .i64 e.op))++(ai e.to))],.dead,.dead,.row 5 1 (map u8C<|(bs++(ai<|wrap .i64 e.op))++(ai e.to)),.box 140 [.fn (.func 80) [.pt 0 0] [],.fn (.func 81) [.pt 0 0] [],.fn (.func 82) [.pt 0 0] [],.fn (.func 83) [.pt 0 0] [],.fn (.func 84) [.pt 0 0] [],.fn (.func 82) [.pt 0 0] [],.fn (.func 80) [.pt 0 0] [],.fn (.func 85) [.pt 0 0] []]] 0 3 5 (((bs++(ai<|wrap .i64 e.op))++(ai e.to))++(ai e.n++ai e.level)) ((length<|(bs++(ai<|wrap .i64 e.op))++(ai e.to))=length ((bs++(ai<|wrap .i64 e.op))++(ai e.to))/\(((bs++(ai<|wrap .i64 e.op))++(ai e.to))++(ai e.n++ai e.level)).length<=140737488355200/\True)
def Qk:bH:=iWr 83 [.pt 0 0,.ag (aQ e)] [.box 50 [.sr 3 1 0 (length<|(bs++(ai<|wrap .i64 e.op))++(ai e.to))],.dead,.dead,.row 5 1 (map u8C<|(bs++(ai<|wrap .i64 e.op))++(ai e.to)),.box 140 [.fn (.func 80) [.pt 0 0] [],.fn (.func 81) [.pt 0 0] [],.fn (.func 82) [.pt 0 0] [],.fn (.func 83) [.pt 0 0] [],.fn (.func 84) [.pt 0 0] [],.fn (.func 82) [.pt 0 0] [],.fn (.func 80) [.pt 0 0] [],.fn (.func 85) [.pt 0 0] []]] 0 3 5 (((bs++(ai<|wrap .i64 e.op))++(ai e.to))++(aM e.g)) ((length<|(bs++(ai<|wrap .i64 e.op))++(ai e.to))=length ((bs++(ai<|wrap .i64 e.op))++(ai e.to))/\(((bs++(ai<|wrap .i64 e.op))++(ai e.to))++(aM e.g)).length<=140737488355200/\True)
def Ql:bH:=iWr 84 [.pt 0 0,.ag (aQ e)] [.box 50 [.sr 3 1 0 (length<|(bs++(ai<|wrap .i64 e.op))++(ai e.to))],.dead,.dead,.row 5 1 (map u8C<|(bs++(ai<|wrap .i64 e.op))++(ai e.to)),.box 140 [.fn (.func 80) [.pt 0 0] [],.fn (.func 81) [.pt 0 0] [],.fn (.func 82) [.pt 0 0] [],.fn (.func 83) [.pt 0 0] [],.fn (.func 84) [.pt 0 0] [],.fn (.func 82) [.pt 0 0] [],.fn (.func 80) [.pt 0 0] [],.fn (.func 85) [.pt 0 0] []]] 0 3 5 (((bs++(ai<|wrap .i64 e.op))++(ai e.to))++(ai e.n)) ((length<|(bs++(ai<|wrap .i64 e.op))++(ai e.to))=length ((bs++(ai<|wrap .i64 e.op))++(ai e.to))/\(((bs++(ai<|wrap .i64 e.op))++(ai e.to))++(ai e.n)).length<=140737488355200/\True)
def Qm:bH:=iWr 85 [.pt 0 0,.ag (aQ e)] [.box 50 [.sr 3 1 0 (length<|(bs++(ai<|wrap .i64 e.op))++(ai e.to))],.dead,.dead,.row 5 1 (map u8C<|(bs++(ai<|wrap .i64 e.op))++(ai e.to)),.box 140 [.fn (.func 80) [.pt 0 0] [],.fn (.func 81) [.pt 0 0] [],.fn (.func 82) [.pt 0 0] [],.fn (.func 83) [.pt 0 0] [],.fn (.func 84) [.pt 0 0] [],.fn (.func 82) [.pt 0 0] [],.fn (.func 80) [.pt 0 0] [],.fn (.func 85) [.pt 0 0] []]] 0 3 5 (((bs++(ai<|wrap .i64 e.op))++(ai e.to))++(ay dY e.bL)) ((length<|(bs++(ai<|wrap .i64 e.op))++(ai e.to))=length ((bs++(ai<|wrap .i64 e.op))++(ai e.to))/\(((bs++(ai<|wrap .i64 e.op))++(ai e.to))++(ay dY e.bL)).length<=140737488355200/\True)
def It:Nat×lXA:=(bif e.op==0 then(length ((bs++(ai<|wrap .i64 e.op))++(ai e.to)),(bs++(ai<|wrap .i64 e.op))++(ai e.to))else(bif e.op==1 then(length (((bs++(ai<|wrap .i64 e.op))++(ai e.to))++(ay cu e.set)),((bs++(ai<|wrap .i64 e.op))++(ai e.to))++(ay cu e.set))else(bif e.op==2 then(length (((bs++(ai<|wrap .i64 e.op))++(ai e.to))++(ai e.n++ai e.level)),((bs++(ai<|wrap .i64 e.op))++(ai e.to))++(ai e.n++ai e.level))else(bif e.op==3 then(length (((bs++(ai<|wrap .i64 e.op))++(ai e.to))++(aM e.g)),((bs++(ai<|wrap .i64 e.op))++(ai e.to))++(aM e.g))else(bif e.op==4 then(length (((bs++(ai<|wrap .i64 e.op))++(ai e.to))++(ai e.n)),((bs++(ai<|wrap .i64 e.op))++(ai e.to))++(ai e.n))else(bif e.op==5 then(length (((bs++(ai<|wrap .i64 e.op))++(ai e.to))++(ai e.n++ai e.level)),((bs++(ai<|wrap .i64 e.op))++(ai e.to))++(ai e.n++ai e.level))else(bif e.op==6 then(length ((bs++(ai<|wrap .i64 e.op))++(ai e.to)),(bs++(ai<|wrap .i64 e.op))++(ai e.to))else(length (((bs++(ai<|wrap .i64 e.op))++(ai e.to))++(ay dY e.bL)),((bs++(ai<|wrap .i64 e.op))++(ai e.to))++(ay dY e.bL)))))))))
end
end
def ZU(y:Nat×lXA):Am.Loc:=[]
def lG(bs:lXA)(e:Edge)(y:Nat×lXA):lXE:=(zL y)
section
variable(bs:lXA)
section
variable(e:Edge)
def ZV:List ((Nat×lXA)×AX×lXC):=[((length ((bs++(ai<|wrap .i64 e.op))++(ai e.to)),(bs++(ai<|wrap .i64 e.op))++(ai e.to)),.normal,[0,1,3]),((length (((bs++(ai<|wrap .i64 e.op))++(ai e.to))++(ay cu e.set)),((bs++(ai<|wrap .i64 e.op))++(ai e.to))++(ay cu e.set)),.normal,[0,1,5]),((length (((bs++(ai<|wrap .i64 e.op))++(ai e.to))++(ai e.n++ai e.level)),((bs++(ai<|wrap .i64 e.op))++(ai e.to))++(ai e.n++ai e.level)),.normal,[0,1,5]),((length (((bs++(ai<|wrap .i64 e.op))++(ai e.to))++(aM e.g)),((bs++(ai<|wrap .i64 e.op))++(ai e.to))++(aM e.g)),.normal,[0,1,5]),((length (((bs++(ai<|wrap .i64 e.op))++(ai e.to))++(ai e.n)),((bs++(ai<|wrap .i64 e.op))++(ai e.to))++(ai e.n)),.normal,[0,1,5]),((length (((bs++(ai<|wrap .i64 e.op))++(ai e.to))++(ay dY e.bL)),((bs++(ai<|wrap .i64 e.op))++(ai e.to))++(ay dY e.bL)),.normal,[0,1,5])]
def oq:List bf:=((ZV bs e).map λw=>(⟨It bs e=w.1,w.2.1,ZU w.1,w.2.2,lG bs e w.1⟩:bf))
theorem afq(he:WE e)(hL:(bs++cc e).length<=140737488355200):aY pg 53 [.pt 0 0,.ag (aQ e)] (zC bs) [] (.tu []) (lG bs e<|It bs e):=
 have hop:=he.op;have hL2:bs.length+(ai<|wrap .i64 e.op).length+(ai e.to).length+(fv e).length<=140737488355200:=oau;cZ (ob0:=(zC bs)) (fn:=Tryz.f53) (callf:=(cz [Qh bs e,Qi bs e,EX bs e,Qj bs e,EY bs e,Qk bs e,Ql bs e,Qm bs e] base)) (pu:=cU) (lf:=3000) (l:=[]) (t:=(.r [bT]<|.r [.bG 0 [],bT]<|.r [.bG 1 [],bT]<|.r [bT]<|.a (.r [.bG 0 [],.bG 2 [],bT]<|.pick 0)<|.a (.r [.bG 1 [],.bG 3 [],bT]<|.pick 1)<|.a (.r [.bG 2 [],.bG 4 [],bT]<|.pick 2)<|.a (.r [.bG 3 [],.bG 5 [],bT]<|.pick 3)<|.a (.r [.bG 4 [],.bG 6 [],bT]<|.pick 4)<|.a (.r [.bG 5 [],.bG 4 [],bT]<|.pick 2)<|.a (.r [.bG 6 [],.bG 2 [],bT]<|.pick 0)<|.r [.bG 7 [],.bG 7 [],bT]<|.pick 5)) (bC (.cons (ft λc=>⟨c.1,cN bs (wrap .i64 e.op) c.2.1⟩)<|.cons (ft λc=>⟨c.1,cN (bs++(ai<|wrap .i64 e.op)) e.to c.2.1⟩)<|.cons (gNa (p:=0) (q:=3) (N:=5) λc=>⟨c,LB ((bs++(ai<|wrap .i64 e.op))++(ai e.to)) e⟩)<|.cons (ft λc=>⟨c.1,R7 ((bs++(ai<|wrap .i64 e.op))++(ai e.to)) e he.sl c.2.1⟩)<|.cons (ft λc=>⟨c.1,Ib ((bs++(ai<|wrap .i64 e.op))++(ai e.to)) e c.2.1⟩)<|.cons (ft λc=>⟨c.1,Bi ((bs++(ai<|wrap .i64 e.op))++(ai e.to)) e he.g he.n c.2.1⟩)<|.cons (ft λc=>⟨c.1,R5 ((bs++(ai<|wrap .i64 e.op))++(ai e.to)) e c.2.1⟩)<|.cons (ft λc=>⟨c.1,LA ((bs++(ai<|wrap .i64 e.op))++(ai e.to)) e he.al c.2.1⟩) dg.nil) aE) mixed Tryz.func53 oab (show Tryz.f53.body=some (aG 53) by kernel_rfl) (nbl rfl) (bq _) rfl ZU (lG bs e) (It bs e) (ZV bs e) (nbl rfl) rfl (by simp[lG,Ob.und,AV.und,bx,bj cn]) (bB (an a0<|an (ac (qWd<|Qh bs e) a0)<|an (ac (qWd<|Qi bs e) a0)<|an a0<|aO (λ(h0:(e.op==0)=true)=>have g0:=eq_of_beq h0;
 (an (ac (qW (c:=EX bs e) rfl rfl)<|ac (rzA (y:=e.op) (z:=0) (len:=8) oaa rfl) a0)<|lf (wy (oq bs e) 0) 5<|cdT h0 rfl))<|λh0=>have g0:=afX h0;
 (aO (λ(h1:(e.op==1)=true)=>have blg1:=bl1 h1;have bwg1:=bw1 he h1;have g1:=eq_of_beq h1;
 (an (ac (qWd<|Qj bs e)<|ac (rzA (y:=e.op) (z:=1) (len:=8) oaa rfl) a0)<|lf (wy (oq bs e) 1) 6<|cdF h0<|cdT h1 rfl))<|λh1=>have g1:=afX h1;
 (aO (λ(h2:(e.op==2)=true)=>have bwg2:=bw2 h2;have g2:=eq_of_beq h2;
 (an (ac (qWd<|EY bs e)<|ac (rzA (y:=e.op) (z:=2) (len:=8) oaa rfl) a0)<|lf (wy (oq bs e) 2) 6<|cdF h0<|cdF h1<|cdT h2 rfl))<|λh2=>have g2:=afX h2;
 (aO (λ(h3:(e.op==3)=true)=>have blg3:=bl3 h3;have g3:=eq_of_beq h3;
 (an (ac (qWd<|Qk bs e)<|ac (rzA (y:=e.op) (z:=3) (len:=8) oaa rfl) a0)<|lf (wy (oq bs e) 3) 6<|cdF h0<|cdF h1<|cdF h2<|cdT h3 rfl))<|λh3=>have g3:=afX h3;
 (aO (λ(h4:(e.op==4)=true)=>have bwg4:=bw4 h4;have g4:=eq_of_beq h4;
 (an (ac (qWd<|Ql bs e)<|ac (rzA (y:=e.op) (z:=4) (len:=8) oaa rfl) a0)<|lf (wy (oq bs e) 4) 6<|cdF h0<|cdF h1<|cdF h2<|cdF h3<|cdT h4 rfl))<|λh4=>have g4:=afX h4;
 (aO (λ(h5:(e.op==5)=true)=>have bwg5:=bw5 h5;have g5:=eq_of_beq h5;
 (an (ac (qWd<|EY bs e)<|ac (rzA (y:=e.op) (z:=5) (len:=8) oaa rfl) a0)<|lf (wy (oq bs e) 2) 6<|cdF h0<|cdF h1<|cdF h2<|cdF h3<|cdF h4<|cdT h5 rfl))<|λh5=>have g5:=afX h5;
 (aO (λ(h6:(e.op==6)=true)=>have g6:=eq_of_beq h6;
 (an (ac (qW (c:=EX bs e) rfl rfl)<|ac (rzA (y:=e.op) (z:=6) (len:=8) oaa rfl) a0)<|lf (wy (oq bs e) 0) 5<|cdF h0<|cdF h1<|cdF h2<|cdF h3<|cdF h4<|cdF h5<|cdT h6 rfl))<|λh6=>have bwg6:=bw7 (e:=e) (by have:=afX h6;omega);have g6:=afX h6;
 (an (ac (qWd<|Qm bs e)<|ac (rzA (y:=e.op) (z:=7) (len:=8) oaa rfl) a0)<|lf (wy (oq bs e) 5) 6<|cdF h0<|cdF h1<|cdF h2<|cdF h3<|cdF h4<|cdF h5<|cdF h6 rfl)))))))) oab) (fa1 (.inl rfl)<|fa1 (.inl rfl)<|fa1 (.inl rfl)<|fa1 (.inl rfl)<|fa1 (.inl rfl)<|fa1 (.inl rfl) fa0) (fa1 (bV rfl rfl rfl rfl oaE)<|fa1 (bV rfl rfl rfl rfl oaE)<|fa1 (bV rfl rfl rfl rfl oaE)<|fa1 (bV rfl rfl rfl rfl oaE)<|fa1 (bV rfl rfl rfl rfl oaE)<|fa1 (bV rfl rfl rfl rfl oaE) fa0) rfl
theorem LC(he:WE e)(hL:(bs++cc e).length<=140737488355200):ga 53 [.pt 0 0,.ag (aQ e)] bs (bs++cc e):=by
 have h:=afq bs e he hL;have k:It bs e=((bs++cc e).length,bs++cc e):=by
  have hs:=he.set;have ho:=he.op;unfold It cc fv;by_cases h0:e.op=0
  ·simp[h0]
  by_cases h1:e.op=1
  ·rw[hs (by simp[h1])];simp[h1]
  by_cases h2:e.op=2
  ·simp[h2]
  by_cases h3:e.op=3
  ·simp[h3]
  by_cases h4:e.op=4
  ·simp[h4]
  by_cases h5:e.op=5
  ·simp[h5]
  by_cases h6:e.op=6
  ·simp[h6]
  have h7:e.op=7:=by omega
  simp[h7]
 rw[k]at h;exact h
end
def Qn(s:State):bH:=iWr 51 [.pt 0 0,I s.aH] [.box 50 [.sr 1 1 0 (length bs)],.row 5 1 (map u8C bs)] 0 1 2 (bs++(ai s.aH)) ((length bs)=length bs/\(bs++(ai s.aH)).length<=140737488355328/\True)
def Qo(s:State):bH:=iWr 52 [.pt 0 0,.sl 10 (map aQ s.ah),.fn (.func 53) [.pt 0 0] []] [.box 50 [.sr 2 1 0 (length<|bs++(ai s.aH))],.dead,.row 5 1 (map u8C<|bs++(ai s.aH))] 0 2 3 ((bs++(ai s.aH))++(ay cc s.ah)) ((length<|bs++(ai s.aH))=length (bs++(ai s.aH))/\((bs++(ai s.aH))++(ay cc s.ah)).length<=140737488355200/\True)
def Iu(s:State):Nat×lXA:=(length ((bs++(ai s.aH))++(ay cc s.ah)),(bs++(ai s.aH))++(ay cc s.ah))
end
def ZW(y:Nat×lXA):Am.Loc:=[]
def AI(bs:lXA)(s:State)(y:Nat×lXA):lXE:=(zL y)
section
variable(bs:lXA)(s:State)
def ZX:List ((Nat×lXA)×AX×lXC):=[((length ((bs++(ai s.aH))++(ay cc s.ah)),(bs++(ai s.aH))++(ay cc s.ah)),.normal,[0,1,3])]
def afr:List bf:=((ZX bs s).map λw=>(⟨Iu bs s=w.1,w.2.1,ZW w.1,w.2.2,AI bs s w.1⟩:bf))
theorem abM(ls:length s.ah<=9223372036854775807)(he: ∀x∈s.ah,WE x)(hL:(bs++bR s).length<=140737488355200):aY pg 24 [.pt 0 0,.ag (aq s)] (zC bs) [] (.tu []) (AI bs s<|Iu bs s):=have hL2:bs.length+(ai s.aH).length+(ay cc s.ah).length<=140737488355200:=(by have:=hL;simp only[bR,afQ]at this;omega);cZ (ob0:=(zC bs)) (fn:=Tryz.f24) (callf:=(cz [Qn bs s,Qo bs s] base)) (pu:=cU) (lf:=3000) (l:=[]) (t:=zBK) (bC (.cons (ft λc=>⟨c.1,cN bs s.aH c.2.1⟩)<|.cons (ft λc=>⟨c.1,Ll (bs++(ai s.aH)) s.ah ls c.2.1 (λx hx bs hb=>LC bs x (he x hx) hb)⟩) dg.nil) aE) mixed Tryz.func24 oab (show Tryz.f24.body=some (aG 24) by kernel_rfl) (nbl rfl) (bq _) rfl ZW (AI bs s) (Iu bs s) (ZX bs s) (nbl rfl) rfl (by simp[AI,Ob.und,AV.und,bx,bj cn]) (bB (an a0<|an (ac (qWd<|Qn bs s) a0)<|an (ac (qWd<|Qo bs s) a0)<|lf (wy (afr bs s) 0) 4 rfl) oab) (fa1 (.inl rfl) fa0) (fa1 (bV rfl rfl rfl rfl<|by simp[AI,plS,plO,AV.pure,aj,ak]) fa0) rfl
theorem Iv(ls:length s.ah<=9223372036854775807)(he: ∀x∈s.ah,WE x)(hL:(bs++bR s).length<=140737488355200):ga 24 [.pt 0 0,.ag (aq s)] bs (bs++bR s):=by
 have h:=abM bs s ls he hL;have e:Iu bs s=((bs++bR s).length,bs++bR s):=by simp[Iu,bR]
 rw[e]at h;exact h
end
section
variable(n:Net)
def i10y:cj:=⟨18,[jD n],I (r10 n),ck n⟩
def g10y:(i10y n).bS pg:=da λhp=>G7 n hp
def Qp:bH:=iWr 19 [.pt 1 0,.sl 1 (map a9 n.types),.fn (.func 20) [.pt 1 0] []] [.row 5 1 (map u8C<|[80,76,68,49]),.box 50 [.sr 0 1 0 4]] 1 0 2 (([80,76,68,49])++(ay az n.types)) (4=length ([80,76,68,49])/\(([80,76,68,49])++(ay az n.types)).length<=140737488355200/\True)
def Qq:bH:=iWr 19 [.pt 1 0,.sl 1 (map a9 n.aJ),.fn (.func 20) [.pt 1 0] []] [.dead,.box 50 [.sr 2 1 0 (length<|([80,76,68,49])++(ay az n.types))],.row 5 1 (map u8C<|([80,76,68,49])++(ay az n.types))] 1 2 3 ((([80,76,68,49])++(ay az n.types))++(ay az n.aJ)) ((length<|([80,76,68,49])++(ay az n.types))=length (([80,76,68,49])++(ay az n.types))/\((([80,76,68,49])++(ay az n.types))++(ay az n.aJ)).length<=140737488355200/\True)
def Qr:bH:=iWr 19 [.pt 1 0,.sl 1 (map a9 n.bu),.fn (.func 20) [.pt 1 0] []] [.dead,.box 50 [.sr 3 1 0 (length<|(([80,76,68,49])++(ay az n.types))++(ay az n.aJ))],.dead,.row 5 1 (map u8C<|(([80,76,68,49])++(ay az n.types))++(ay az n.aJ))] 1 3 4 (((([80,76,68,49])++(ay az n.types))++(ay az n.aJ))++(ay az n.bu)) ((length<|(([80,76,68,49])++(ay az n.types))++(ay az n.aJ))=length ((([80,76,68,49])++(ay az n.types))++(ay az n.aJ))/\(((([80,76,68,49])++(ay az n.types))++(ay az n.aJ))++(ay az n.bu)).length<=140737488355200/\True)
def Qs:bH:=iWr 21 [.pt 1 0,.sl 9 (map aC n.rules),.fn (.func 22) [.pt 1 0] []] [.dead,.box 50 [.sr 4 1 0 (length<|((([80,76,68,49])++(ay az n.types))++(ay az n.aJ))++(ay az n.bu))],.dead,.dead,.row 5 1 (map u8C<|((([80,76,68,49])++(ay az n.types))++(ay az n.aJ))++(ay az n.bu))] 1 4 5 ((((([80,76,68,49])++(ay az n.types))++(ay az n.aJ))++(ay az n.bu))++(ay cp n.rules)) ((length<|((([80,76,68,49])++(ay az n.types))++(ay az n.aJ))++(ay az n.bu))=length (((([80,76,68,49])++(ay az n.types))++(ay az n.aJ))++(ay az n.bu))/\((((([80,76,68,49])++(ay az n.types))++(ay az n.aJ))++(ay az n.bu))++(ay cp n.rules)).length<=140737488355200/\True)
def Qt:bH:=iWr 23 [.pt 1 0,.sl 2 (map aq n.aa),.fn (.func 24) [.pt 1 0] []] [.dead,.box 50 [.sr 5 1 0 (length<|(((([80,76,68,49])++(ay az n.types))++(ay az n.aJ))++(ay az n.bu))++(ay cp n.rules))],.dead,.dead,.dead,.row 5 1 (map u8C<|(((([80,76,68,49])++(ay az n.types))++(ay az n.aJ))++(ay az n.bu))++(ay cp n.rules))] 1 5 6 (((((([80,76,68,49])++(ay az n.types))++(ay az n.aJ))++(ay az n.bu))++(ay cp n.rules))++(ay bR n.aa)) ((length<|(((([80,76,68,49])++(ay az n.types))++(ay az n.aJ))++(ay az n.bu))++(ay cp n.rules))=length ((((([80,76,68,49])++(ay az n.types))++(ay az n.aJ))++(ay az n.bu))++(ay cp n.rules))/\(((((([80,76,68,49])++(ay az n.types))++(ay az n.aJ))++(ay az n.bu))++(ay cp n.rules))++(ay bR n.aa)).length<=140737488355200/\True)
def CK:Nat×lXA:=(length (((((([80,76,68,49])++(ay az n.types))++(ay az n.aJ))++(ay az n.bu))++(ay cp n.rules))++(ay bR n.aa)),((((([80,76,68,49])++(ay az n.types))++(ay az n.aJ))++(ay az n.bu))++(ay cp n.rules))++(ay bR n.aa))
end
def LD(y:Nat×lXA):Am.Loc:=[(2,.sr 0 1 0 y.1),(3,I 0)]
def AJ(n:Net)(y:Nat×lXA):lXE:=[.row 5 1 (map u8C y.2)]
def ZY(n:Net):List ((Nat×lXA)×AX×lXC):=[((length (((((([80,76,68,49])++(ay az n.types))++(ay az n.aJ))++(ay az n.bu))++(ay cp n.rules))++(ay bR n.aa)),((((([80,76,68,49])++(ay az n.types))++(ay az n.aJ))++(ay az n.bu))++(ay cp n.rules))++(ay bR n.aa)),.ret,[6])]
def afs(n:Net):List bf:=((ZY n).map λw=>(⟨CK n=w.1,w.2.1,LD w.1,w.2.2,AJ n w.1⟩:bf))
def aft(n:Net)(hB:ET n)(hW: ∀s∈n.aa,∀e∈s.ah,WE e)(hA:((r10 n) !=0)=false):aY pg 8 [.ag (bA n)] [] [] (.tu [.sr 0 1 0 (CK n).1,I 0]) (AJ n<|CK n):=have hf:=hB.fit;have hall:4+(ay az n.types).length+(ay az n.aJ).length+(ay az n.bu).length+(ay cp n.rules).length+(ay bR n.aa).length<=140737488355200:=(by have:=hB.all;simp only[dt,eT,afQ,agb,agt]at this;omega);cZ (ob0:=[]) (fn:=Tryz.f8) (callf:=(cz [Qp n,Qq n,Qr n,Qs n,Qt n]<|nO [i10y n] base)) (pu:=cU) (lf:=3000) (l:=[]) (t:=(.r [bT]<|.r [.int 0,.k,bT]<|.no<|.r [bT]<|.r [bT]<|.more<|.r [.k,bT]<|.r [.row [.sl 1 (map a9 n.types)],bT]<|.r [.bG 0 [],bT]<|.r [.int 1,bT]<|.r [.k,bT]<|.r [.row [.sl 1 (map a9 n.aJ)],bT]<|.r [.bG 1 [],bT]<|.r [.int 2,bT]<|.r [.k,bT]<|.r [.row [.sl 1 (map a9 n.bu)],bT]<|.r [.bG 2 [],bT]<|.r [.int 3,bT]<|.r [.k,bT]<|.r [.bG 3 [],bT]<|.r [.bG 4 [],bT] zB)) (bC (.cons (ft λc=>⟨c.1,qn ([80,76,68,49]) n.types hB.types c.2.1 (λx _ bs hb=>mT bs x<|agu hb oay)⟩)<|.cons (ft λc=>⟨c.1,qn (([80,76,68,49])++(ay az n.types)) n.aJ hB.aJ c.2.1 (λx _ bs hb=>mT bs x<|agu hb oay)⟩)<|.cons (ft λc=>⟨c.1,qn ((([80,76,68,49])++(ay az n.types))++(ay az n.aJ)) n.bu hB.bu c.2.1 (λx _ bs hb=>mT bs x<|agu hb oay)⟩)<|.cons (ft λc=>⟨c.1,K9 (((([80,76,68,49])++(ay az n.types))++(ay az n.aJ))++(ay az n.bu)) n.rules (agu hf.rules oay) c.2.1 (λx _ bs hb=>Lu bs x hb)⟩)<|.cons (ft λc=>⟨c.1,Lh ((((([80,76,68,49])++(ay az n.types))++(ay az n.aJ))++(ay az n.bu))++(ay cp n.rules)) n.aa (agu hf.aa oay) c.2.1 (λx hx bs hb=>Iv bs x (agu (hf.ah x hx) oay) (hW x hx) hb)⟩) dg.nil)<|bn (.cons (g10y n) rfl cy.nil) aE) mixed Tryz.func8 oab (show Tryz.f8.body=some (aG 8) by kernel_rfl) (nbl rfl) (bq _) rfl LD (AJ n) (CK n) (ZY n) (nbl rfl) rfl (by simp[AJ,Ob.und,AV.und,bx,bj cn]) (bB (an a0<|an (a1<|cA (g10y n) hf a0)<|an (show((r10 n) !=0)=false from hA)<|an a0<|an a0<|an (a1 a0)<|an (ac (bQ<|some ([.sl 1 (map a9 n.types)]:lXF)) a0)<|an (ac (qWd<|Qp n) a0)<|an (ac (bQ (1:Int)) a0)<|an (a1 a0)<|an (ac (bQ<|some ([.sl 1 (map a9 n.aJ)]:lXF)) a0)<|an (ac (qWd<|Qq n) a0)<|an (ac (bQ (2:Int)) a0)<|an (a1 a0)<|an (ac (bQ<|some ([.sl 1 (map a9 n.bu)]:lXF)) a0)<|an (ac (qWd<|Qr n) a0)<|an (ac (bQ (3:Int)) a0)<|an (a1 a0)<|an (ac (qWd<|Qs n) a0)<|an (ac (qWd<|Qt n) a0)<|an a0<|lf (wy (afs n) 0) 7 rfl) oab) (fa1 (.inr rfl) fa0) (fa1 (bV rfl rfl rfl (by simp[LD,plS,AV.pure])<|by simp[AJ,plS,plO,AV.pure,aj,ak]) fa0) rfl
def ZZ(n:Net):AV:= .tu [.v (.slice none 0 0),I 110]
def abN(n:Net)(hf:ck n)(hA:((r10 n) !=0)=true):aY pg 8 [.ag (bA n)] [] [] (ZZ n) []:=
 aV 8 zCz
 (an a0<|an (a1<|cA (g10y n) hf a0)<|an (show((r10 n) !=0)=true from hA)<|an a0<|vE<|show ZZ n=(.tu [.v (.slice none 0 0),I 110])from rfl) (hc:=(bn (.cons (g10y n) rfl cy.nil) aE))
def LF(n:Net)(hB:ET n)(hW: ∀s∈n.aa,∀e∈s.ah,WE e)(hA:((r10 n) !=0)=false):aY pg 8 [.ag (bA n)] [] [] (.tu [.sl 1 ((dt n).map u8C),I 0]) []:=by
 have h:=aft n hB hW hA;have e:CK n=((dt n).length,dt n):=by simp[CK,dt,eT]
 rw[e]at h;exact qR (nK (ob2:=[.dead]) h (o:=0) rfl (.inl ⟨_,_,_,rfl⟩) (Frz.tu<|jv.cons (Frz.sr0 rfl oaj)<|jv.cons (Frz.same _) jv.nil) rfl<|λi Y Y' _ h2=> .inl<|by
  cases i with
  |zero=>simp at h2;exact h2.symm
  |succ i=>simp at h2) (by simp[AV.und,bx,bj cn])
end Go.Proofs.YtfkjfjalecikkaaGreat
namespace Go.Am
open Go.ChangeShapes Go.WideShapes Go.RowKit
def uq(W W':World):Prop:=W'.os=W.os/\W'.output=W.output/\W.heap.size<=W'.heap.size/\ ∀i,i<W.heap.size->W'.heap[i]? =W.heap[i]?
def uq.frame{W W':World}(h:uq W W')(may:MemPlace->Prop):W.keptBut W' may:=by obtain⟨h1,h2,h3,h4⟩:=h;refine⟨h1,h2,λi hi=> ?_⟩;grind
theorem uq.frozen{W W':World}(h:uq W W')(a:Addr)(ha:a.block<W.heap.size):W'.frozen? a=W.frozen? a:=by simp only[World.frozen?,h.2.2.2 a.block ha]
def sF(W:World)(h: ∀a x,AO a=some x->W.cell? a=some x):Mem:=⟨λa=>W.cell? a,h⟩
def R8(W:World)(hW: ∀a x,AO a=some x->W.cell? a=some x):Inv (sF W hW) (λ_=>none) [] W:=⟨λ_ _ h=>h,λo X h=>by simp at h,oaz,λo b C h=>by simp at h,λo h=>by simp at h⟩
def Bj{P:Program}{f:FuncId}{args:lXF}{r:Value}(h:aY P f args [] [] (.v r) [])(W:World)(hW: ∀a x,AO a=some x->W.cell? a=some x){vs:List Value}(hv:aB (sF W hW) (λ_=>none) args vs):Calls P f vs.toArray W λe W'=>e= .returned r/\uq W W':=by
 refine(h.2 _ _ W vs (R8 W hW) hv).mono λe W'⟨m',γ',r',ob',⟨h1,h2⟩,h3,h4,_,_⟩=> ?_;subst h1;have hn: ∀k,¬InG (λ_=>none:Gam) k:=λk⟨o,C,hk⟩=>by simp at hk
 refine⟨?_,h4.os,h4.output,h4.size,λi hi=>h4.blk i hi (hn i)⟩;cases e with
 |returned v=>simp only[mm,Rep]at h3;rw[h3]
 |panicked c=>exact h3.elim
 |outgrown=>exact h3.elim
section
variable{H:Type}{enc:TypeId×Value->H}{P:Program}
theorem EZ{f:Func}{s:ChangeSpec}{apart fresh handsOn again:Bool}{W W':World}{args:Array Value}{v:Value}{ds gs:List (DataW H)}{before pa pv:List MemPlace}(hW:DataW.Whole enc P f.params.toList s.vars apart W args.toList ds gs before)(hres: ∀(b:Nat)(sp:Nat->Bool)(hd:Bool),DataW.TrodAll enc P W' b sp hd f.resultTypes.toList (v.resultList f.resultTypes.size) (s.fn H<|ds++gs).results [])(hargs: ∀sp:Nat->Bool,(∀p∈before,sp p.block=true)->DataW.TrodAll enc P W' 0 sp true f.params.toList args.toList (s.fn H<|ds++gs).args pa)(hvars: ∀sp:Nat->Bool,(∀p∈before,sp p.block=true)->DataW.TrodVars enc P W' sp s.vars (s.fn H<|ds++gs).vars pv)(hps:before=pa++pv)(hk:uq W W')(hok: ∀(j:Nat)(t:TypeId)(r:Value),f.resultTypes[j]? =some t->(v.resultList f.resultTypes.size)[j]? =some r->Value.okWide P W' .any 0 t r):s.post enc P f apart fresh handsOn again W args v W':=by
 have hlt:=hW.lt;have hold: ∀p∈before,(λb=>decide<|b<W.heap.size) p.block=true:=λp hp=>by simpa using hlt p hp
 refine⟨ds,gs,before,[],pa,pv,hW,hres _ _ _,hargs _ hold,hvars _ hold,hk.frame _,λ_=> ?_⟩
 ·obtain⟨_,_,_,_,_,hz,hn⟩:=hW;refine⟨hok,_,_,([]++pa)++pv,⟨[]++pa,pv,trodAll_append (hargs _<|λ_ _=>rfl) (hres _ _ _),hvars _ (λ_ _=>rfl),rfl,?_,?_⟩,?_⟩
  ·intro b off hp;have hp':MemPlace.cell b off∈before:=by rw[hps];simpa using hp
   rw[hk.frozen _ (by simpa [MemPlace.block]using hlt _ hp')];exact hz b off hp'
  ·intro ha;have:=hn ha;rw[hps]at this;simpa using this
  ·intro p hp _;rw[hps];simpa using hp
def Qu(P:Program):Bool:=(range P.types.size).all λt=>
 match P.underlying t with
 |some (.pointer e)=>decide (e<P.types.size)
 |some (.slice e)=>decide (e<P.types.size)&&decide (0<P.cellsOf e)
 |some (.array n e)=>decide (e<P.types.size)&&decide (P.cellsOf t=n*P.cellsOf e)
 |some (.struct fs)=>(fs.toList.all λf=>decide<|f.type<P.types.size)&&decide (P.cellsOf t=(fs.toList.map λf=>P.cellsOf f.type).sum)&&
   (range fs.toList.length).all λj=>(fs.toList[j]?).all λf=>decide (f.offset=((fs.toList.take j).map λf=>P.cellsOf f.type).sum)
 |some (.map _ e)=>decide (e<P.types.size)
 |_=>true
theorem Qv{P:Program}(h:Qu P=true):Kids P (λt=>t<P.types.size)/\ ∀t e,t<P.types.size->P.underlying t=some (.slice e)->0<P.cellsOf e:=by
 have look: ∀t,t<P.types.size->_:=λt ht=>agc.1 h t (List.mem_range.2 ht);refine⟨⟨λ{t e} ht hu=> ?_,λ{t e} ht hu=> ?_,λ{t e n} ht hu=> ?_,λ{t fs} ht hu=> ?_,λ{t k e} ht hu=> ?_⟩,λt e ht hu=> ?_⟩
 ·grind
 ·grind
 ·grind
 ·grind
 ·grind
 grind
theorem sG(hP:Qu P=true){W W':World}(hk:uq W W'): ∀{ts:List TypeId}{vs:List Value}{ds:List (DataW H)}{ps:List MemPlace},(∀t∈ts,t<P.types.size)->DataW.TrodAll enc P W 0 (λ_=>true) true ts vs ds ps->(∀p∈ps,p.block<W.heap.size)-> ∀sp:Nat->Bool,(∀p∈ps,sp p.block=true)->DataW.TrodAll enc P W' 0 sp true ts vs ds ps
 |[],_,_,_,_,h,_,_,_=>by obtain⟨rfl,rfl,rfl⟩:=trodAll_nil h;exact trodAll_mk0
 |t::ts,_,_,_,hts,h,hlt,sp,hsp=>by
  obtain⟨v,vs1,d,ds1,p,q,rfl,rfl,rfl,⟨n,h1⟩,h2⟩:=trodAll_cons h;have hc:=DataW.trod_carry (w':=W') n t _ _ h1 (λx hx=>by
   have hb:=hlt x (ag8 _ hx);cases x with
   |cell b off=>show W'.cell? _=W.cell? _;simp only[World.cell?,hk.2.2.2 b hb]
   |map b=>exact hk.2.2.2 b hb)
  exact trodAll_cons_mk ⟨n,DataW.trod_respare (Qv hP).1 (Qv hP).2 n t _ _ (hts t<|ag7 ..) hc (λx hx=>hsp x<|ag8 _ hx)⟩
   (sG hP hk (λu hu=>hts u<|agf _ hu) h2 (λx hx=>hlt x<|List.mem_append_right _ hx) sp<|λx hx=>hsp x<|List.mem_append_right _ hx)
theorem R9{f:Func}{s:ChangeSpec}{apart fresh handsOn again:Bool}{W W':World}{args:Array Value}{ds gs:List (DataW H)}{before:List MemPlace}{tb:TypeId}(hW:DataW.Whole enc P f.params.toList s.vars apart W args.toList ds gs before)(hk:uq W W')(hP:Qu P=true)(hts:f.params.toList.all (λt=>decide<|t<P.types.size)=true)(hv:s.vars=[])(hr:f.resultTypes= #[tb])(hb:P.underlying tb=some .bool)(h1:(s.fn H ds).results=[.lit (.bool true)])(h2:(s.fn H ds).args=ds)(h3:(s.fn H ds).vars=[]):s.post enc P f apart fresh handsOn again W args (.bool true) W':=by
 have hW':=hW;have hlt:=hW.lt;obtain⟨p,q,hA,hV,rfl,_,_⟩:=hW;rw[hv]at hV;obtain⟨rfl,rfl⟩:=trodVars_none hV;have hts': ∀t∈f.params.toList,t<P.types.size:=λt ht=>by simpa using agc.1 hts t ht
 refine EZ (pa:=p) (pv:=[]) hW' ?_ ?_ ?_ rfl hk ?_
 ·intro b sp hd;rw[hr];simp only[agA,h1];exact trodAll_cons_mk (shut_bool hb _) trodAll_mk0
 ·intro sp hsp;simp only[agA,h2];exact sG hP hk hts' hA (λx hx=>hlt x<|by simpa using hx) sp (λx hx=>hsp x<|by simpa using hx)
 ·intro sp hsp;rw[hv];simp only[agA,h3];rfl
 ·exact ok_one (by rw[hr]) rfl (okWide_bool_mk hb _)
end
end Go.Am
namespace Go.Proofs.YtfkjfjalecikkaaGreat
open Go.ChangeShapes Go.WideShapes Go.ChangeAt Go.RowKit Go.Am
def one_le{H:Type}(d:DataW H):1<=Rows.uptoBulk d:=by
 cases d with
 |lit l=>cases l<;>simp[Rows.uptoBulk]
 |nil=>simp[Rows.uptoBulk]
 |ptr d=>simp[Rows.uptoBulk]
 |slice elems spare=>simp[Rows.uptoBulk]
 |agg parts=>simp[Rows.uptoBulk]
 |iface t d=>simp[Rows.uptoBulk]
 |map entries=>simp[Rows.uptoBulk]
 |held h=>simp[Rows.uptoBulk]
def bU{H:Type}: ∀{l:List (DataW H)}{i:Nat}{y:DataW H},l[i]? =some y->Rows.uptoBulkAll (l.drop i)=Rows.uptoBulk y+Rows.uptoBulkAll (l.drop<|i+1)
 |[],_,_,h=>by simp at h
 |x::l,0,y,h=>by simp at h;subst h;simp[Rows.uptoBulkAll]
 |x::l,i+1,y,h=>by simpa using bU (l:=l) (i:=i) oaM
def muL{α:Type}(mu:α->Nat):List α->Nat
 |[]=>1
 |x::l=>mu x+muL mu l
def lh{α:Type}{mu:α->Nat}{c:Nat}(hm: ∀x,c<=mu x): ∀l:List α,l.length*c+1<=muL mu l
 |[]=>by simp[muL]
 |x::l=>by have:=lh hm l;have:=hm x;simp only[muL,agb,agF];omega
def E0{α:Type}{mu:α->Nat}{x:α}: ∀{l:List α},x∈l->mu x+1<=muL mu l
 |[],h=>by simp at h
 |y::l,h=>by
  simp only[muL];rcases agq.1 h with rfl|h
  ·have:1<=muL mu l:=by cases l with
    |nil=>simp[muL]
    |cons z l=>have:=lh (mu:=mu) (c:=0) (λ_=>agn _) (z::l);omega
   omega
  ·have:=E0 (mu:=mu) h;omega
def Iw{α H:Type}{mu:α->Nat}: ∀{l:List α}{d:List (DataW H)},l.length=d.length->(∀(i:Nat)(x:α)(y:DataW H),l[i]? =some x->d[i]? =some y->mu x<=Rows.uptoBulk y)->muL mu l<=Rows.uptoBulkAll d+1
 |[],d,_,_=>by simp[muL]
 |x::l,[],h,_=>by simp at h
 |x::l,y::d,h,hm=>by have h1:=hm 0 x y rfl rfl;have h2:=Iw (l:=l) (d:=d) oaM (λi u v h3 h4=>hm (i+1) u v (by simpa using h3)<|by simpa using h4);simp only[muL,Rows.uptoBulkAll];omega
section
variable{P:Program}{H:Type}{enc:TypeId×Value->H}{W:World}{hW: ∀a x,AO a=some x->W.cell? a=some x}{base:Nat}{v:Value}{d:DataW H}{p:List MemPlace}{α β:Type}
theorem Sb{a:Addr}{n:Nat}{cs:List Value}(h:W.cells? 0 a n=some cs):cs.length=n/\ ∀j,j<n->W.cell? (a.add j)=cs[j]? :=by simp only[World.cells?,agn,agX]at h;exact⟨by simpa using mapM_some_length h,λj hj=>mapM_some_get h j j (by simp[hj])⟩
theorem abO{f:α->lXF}{S:Nat}{Q:α->Nat->Prop}{a:Addr}{len cap:Nat}(hlc:len<=cap)(hS:0<S)(hf: ∀x,(f x).length=S)(each: ∀i,i<len-> ∃(x:α)(cs:List Value),Q x i/\aB (sF W hW) (λ_=>none) (f x) cs/\cs.length=S/\ ∀j,j<S->W.cell? ((a.add<|i*S).add j)=cs[j]?):∃l:List α,l.length=len/\(∀i x,l[i]? =some x->Q x i)/\Rep (sF W hW) (λ_=>none) (.sl S<|l.map f) (.slice (some a) len cap):=by
 have hall: ∀k,k<=len-> ∃l:List α,l.length=k/\ ∀i x,l[i]? =some x->Q x i/\ ∃cs:List Value,aB (sF W hW) (λ_=>none) (f x) cs/\cs.length=S/\ ∀j,j<S->W.cell? ((a.add<|i*S).add j)=cs[j]? :=by
  intro k;induction k with
  |zero=>intro _;exact⟨[],rfl,by simp⟩
  |succ k ih=>
   intro hk;obtain⟨l,h1,h3⟩:=ih oaa;obtain⟨x,cs,hq,hx⟩:=each k oaa;refine⟨l++ [x],by simp[h1],λi u hu=> ?_⟩;by_cases hi:i<l.length
   ·rw[afZ hi]at hu;exact h3 i u hu
   ·rw[agl oaa]at hu;have hil:i=l.length:=by have:=(afR.1 hu).1;simp at this;omega
    subst hil;simp at hu;subst hu;rw[h1];exact⟨hq,cs,hx⟩
 obtain⟨l,hll,hlc3⟩:=hall len (afP _);have hq: ∀i x,l[i]? =some x->Q x i:=λi x h=>(hlc3 i x h).1;have hlc2:=λi x h=>(hlc3 i x h).2;refine⟨l,hll,hq,?_⟩;simp only[Rep];refine⟨some a,len,cap,rfl,by simp;omega,hlc,?_⟩;by_cases h0:len=0
 ·left;have:l=[]:=agp oaa;rw[this];rfl
 ·right;obtain⟨x0,hx0⟩: ∃x,l[0]? =some x:=⟨_,af0 oaa⟩;obtain⟨cs0,hr0,hl0,hc0⟩:=hlc2 0 x0 hx0;obtain⟨ab,ao,spot⟩:=a;have hspot:spot=none:=by have h1:=hc0 0 hS;rw[af0 oaa]at h1;simpa [Addr.add]using World.cell?_spot h1
  subst hspot;refine⟨ab,ao,rfl,ir λi r hr=> ?_⟩;rw[afY]at hr;cases hti:l[i]? with
  |none=>rw[hti]at hr;cases hr
  |some x=>
   rw[hti]at hr;simp only[af6,afM]at hr;subst hr;obtain⟨cs,h1,h2,h3⟩:=hlc2 i x hti;refine⟨hf x,eW λj c hcj=> ?_⟩;have hj:j<S:=by have:=(afR.1 hcj).1;rw[hf]at this;exact this
   obtain⟨y,hy,hry⟩:=cd h1 j c hcj;have:=h3 j hj;rw[Addr.add_lit,Addr.add_lit,hy]at this;exact⟨y,this,hry⟩
def Rd(P:Program)(enc:TypeId×Value->H)(W:World)(hW: ∀a x,AO a=some x->W.cell? a=some x)(n:Nat)(f:α->lXF)(Q:α->Prop)(mu:α->Nat)(T:TypeId):Prop:=∀cs x,DataW.trod enc P W 0 (λ_=>true) true n T cs=some x->(∀w∈x.1.weights P T,w<=reachBytes)-> ∃a,Q a/\mu a<=Rows.uptoBulk x.1/\aB (sF W hW) (λ_=>none) (f a) cs
theorem ot{e:TypeId}: ∀{l:List (DataW H)}{y:DataW H},y∈l-> ∀w∈y.weights P e,w∈DataW.weightsAll P e l
 |z::l,y,hy,w,hw=>by
  simp only[DataW.weightsAll,agH];rcases agq.1 hy with rfl|hy
  ·exact .inl hw
  ·exact .inr (ot hy w hw)
theorem jG: ∀{ts:List TypeId}{l:List (DataW H)}{i:Nat}{t:TypeId}{y:DataW H},ts[i]? =some t->l[i]? =some y-> ∀w∈y.weights P t,w∈DataW.weightsEach P ts l
 |t::ts,z::l,0,_,_,ht,hy,w,hw=>by grind[DataW.weightsEach]
 |t::ts,z::l,i+1,_,_,ht,hy,w,hw=>by simp only[DataW.weightsEach,agH];exact .inr (jG (i:=i) (by simpa using ht) (by simpa using hy) w hw)
 |[],_,_,_,_,ht,_,_,_=>by simp at ht
 |_::_,[],_,_,_,_,hy,_,_=>by simp at hy
section
variable{n:Nat}{T:TypeId}
theorem hC{k:IntKind}(ht:P.underlying T=some (.int k)):Rd P enc W hW n (λz=>[.v (.int k z)]) (λz=>(Lit.int k z).wf=true) (λ_=>1) T:=λcs x h _=>by obtain⟨z,rfl,_,hz⟩:=DataW.trod_int ht h;exact⟨z,hz,one_le _,by simp[aB,Rep]⟩
theorem vL(ht:P.underlying T=some .bool):Rd P enc W hW n (λb=>[B b]) (λ_=>True) (λ_=>1) T:=λcs x h _=>by obtain⟨z,rfl,_⟩:=DataW.trod_bool ht h;exact⟨z,trivial,one_le _,by simp[aB,Rep]⟩
theorem AK(ht:P.underlying T=some .string):Rd P enc W hW n a9 (λs=>s.size<=9223372036854775807) (λs=>s.size+1) T:=λcs x h _=>by obtain⟨z,rfl,hx,hz⟩:=DataW.trod_string ht h;subst hx;exact⟨z,hz,(by simp[Rows.uptoBulk]),by simp[a9,aB,Rep]⟩
end
theorem mV{n:Nat}{f:α->lXF}{Q:α->Prop}{mu:α->Nat}{T e:TypeId}{S by':Nat}(ht:P.underlying T=some (.slice e))(hc:P.cellsOf e=S)(hb:P.bytesOf e=by')(hS:0<S)(hf: ∀x,(f x).length=S)(hr: ∀m,m<n->Rd P enc W hW m f Q mu e):Rd P enc W hW n (λ(l:List α)=>[.sl S (l.map f)]) (λ(l:List α)=>l.length<=9223372036854775807/\l.length*by'<=140737488351232/\ ∀x∈l,Q x) (muL mu) T:=λcs x h hw=>by
 rcases DataW.trod_slice ht h with⟨hcs,_⟩|⟨a,len,cap,elems,rest,m,hm,hcs,hx,_,hl,hmx,hlen,hel,_,_⟩
 ·subst hcs;exact⟨[],by simp,one_le _,by simp only[aB,agM];exact⟨_,_,rfl,by simp only[Rep];exact⟨none,0,0,rfl,rfl,afP _,.inl trivial⟩,rfl⟩⟩
 ·subst hcs hx;simp only[DataW.weights,ht,agq,agH]at hw;have h0:=hw _ (.inl rfl);simp only[afW,hlen]at h0;obtain⟨l,h1,h2,h3⟩:=abO (S:=S) (f:=f) (Q:=λx i=>Q x/\ ∀y,(elems.map (·.1))[i]? =some y->mu x<=Rows.uptoBulk y) (hW:=hW) (a:=a) hl hS hf λi hi=>by have h1:=hel i hi;rw[hc,af0 oaa]at h1;simp only[Option.bind_eq_some_iff]at h1;obtain⟨cs,h2,h3⟩:=h1;obtain⟨hcl,hcell⟩:=Sb h2;obtain⟨z,q1,q3,q2⟩:=hr m oaa cs _ h3 λw hw'=>hw w (.inr<|.inl<|ot (List.mem_map_of_mem<|List.getElem_mem _) w hw');exact⟨z,cs,⟨q1,λy hy=>by rw[afY,af0 oaa]at hy;simp only[af6,afM]at hy;subst hy;exact q3⟩,q2,hcl,hcell⟩
  have:cap<=9223372036854775807:=hmx;have h5:len*by'<=140737488351232:=by rw[hb,agF]at h0;have:reachBytes=140737488351232:=rfl;omega
  refine⟨l,⟨by omega,by rw[h1];exact h5,λx hx=> ?_⟩,?_,?_⟩
  ·obtain⟨i,hi,e⟩:=List.mem_iff_getElem.1 hx;exact(h2 i x<|by rw[af0 hi,e]).1
  ·have:=Iw (mu:=mu) (l:=l) (d:=elems.map (·.1)) oaA (λi x y h3 h4=>(h2 i x h3).2 y h4);simp only[Rows.uptoBulk];omega
  simp only[aB];exact⟨_,_,rfl,h3,rfl⟩
theorem v9{n:Nat}{T:TypeId}{fs:Array Field}{cs:List Value}{x:DataW H×List MemPlace}(ht:P.underlying T=some (.struct fs))(h:DataW.trod enc P W 0 (λ_=>true) true n T cs=some x)(hw: ∀w∈x.1.weights P T,w<=reachBytes):∃(m:Nat)(ds:List (DataW H)),m<n/\cs.length=P.cellsOf T/\Rows.uptoBulk x.1=Rows.uptoBulkAll (ds.drop 0)+1/\ ∀(i:Nat)(fd:Field),fs[i]? =some fd-> ∃y,ds[i]? =some y.1/\DataW.trod enc P W 0 (λ_=>true) true m fd.type ((cs.drop fd.offset).take<|P.cellsOf fd.type)=some y/\ ∀w∈y.1.weights P fd.type,w<=reachBytes:=by
 obtain⟨ys,m,hm,hx,hl,hys,hfl⟩:=DataW.trod_struct ht h;subst hx;refine⟨m,ys.map (·.1),by omega,hl,(by simp[Rows.uptoBulk]),λi fd hfd=> ?_⟩;have hi:i<ys.length:=by rw[hys];exact(Array.getElem?_eq_some_iff.1 hfd).1
 have:=hfl i fd hfd;rw[af0 hi]at this;refine⟨_,(by rw[afY,af0 hi];rfl),this,λw hw'=>hw w ?_⟩;simp only[DataW.weights,ht];exact jG (i:=i) (t:=fd.type) (by simp[hfd]) (by simp[hi]) w hw'
theorem fld{m:Nat}{f:α->lXF}{Q:α->Prop}{mu:α->Nat}{t:TypeId}{cs:List Value}{o s:Nat}{fd:Field}{y:DataW H×List MemPlace}(hr:Rd P enc W hW m f Q mu t)(ho:fd.offset=o)(hs:P.cellsOf fd.type=s)(hT:fd.type=t)(h:DataW.trod enc P W 0 (λ_=>true) true m fd.type ((cs.drop fd.offset).take<|P.cellsOf fd.type)=some y)(hw: ∀w∈y.1.weights P fd.type,w<=reachBytes): ∃a,Q a/\mu a<=Rows.uptoBulk y.1/\aB (sF W hW) (λ_=>none) (f a) ((cs.drop o).take s):=by rw[ho,hs]at h;rw[hT]at h hw;exact hr _ _ h hw
theorem glue{m:Mem}{g:Gam}{l1 l2:lXF}{cs:List Value}{o s t:Nat}(h1:aB m g l1 ((cs.drop o).take s))(h2:aB m g l2 ((cs.drop<|o+s).take t)):aB m g (l1++l2) ((cs.drop o).take<|s+t):=by grind[List.drop_drop,cL]
theorem whole{m:Mem}{g:Gam}{l:lXF}{cs:List Value}{s:Nat}(hs:cs.length=s)(h:aB m g l ((cs.drop 0).take s)):aB m g l cs:=by grind
end
section
variable{H:Type}{enc:TypeId×Value->H}{W:World}{hW: ∀a x,AO a=some x->W.cell? a=some x}
theorem u2:Tryz.prog.underlying 2=some (.int .i64):=by kernel_rfl
theorem u3:Tryz.prog.underlying 3=some (.int .i64):=by kernel_rfl
theorem u4:Tryz.prog.underlying 4=some (.bool):=by kernel_rfl
theorem u9:Tryz.prog.underlying 9=some (.string):=by kernel_rfl
theorem u21:Tryz.prog.underlying 21=some (.int .i32):=by kernel_rfl
theorem u22:Tryz.prog.underlying 22=some (.slice 9):=by kernel_rfl
theorem u23:Tryz.prog.underlying 23=some (.slice 56):=by kernel_rfl
theorem u24:Tryz.prog.underlying 24=some (.slice 45):=by kernel_rfl
theorem u26:Tryz.prog.underlying 26=some (.struct #[⟨ "Types",22,0,false, "", "",0⟩,⟨ "Channels",22,1,false, "", "",24⟩,⟨ "Modes",22,2,false, "", "",48⟩,⟨ "Rules",23,3,false, "", "",72⟩,⟨ "States",24,4,false, "", "",96⟩]):=by kernel_rfl
theorem u43:Tryz.prog.underlying 43=some (.slice 73):=by kernel_rfl
theorem u45:Tryz.prog.underlying 45=some (.struct #[⟨ "Rule",3,0,false, "", "",0⟩,⟨ "Edges",43,1,false, "", "",8⟩]):=by kernel_rfl
theorem u56:Tryz.prog.underlying 56=some (.struct #[⟨ "Name",9,0,false, "", "",0⟩,⟨ "Lexer",4,1,false, "", "",16⟩,⟨ "Frag",4,2,false, "", "",17⟩,⟨ "Lazy",4,3,false, "", "",18⟩,⟨ "Left",4,4,false, "", "",19⟩,⟨ "Mode",3,5,false, "", "",24⟩,⟨ "Type",3,6,false, "", "",32⟩,⟨ "Start",3,7,false, "", "",40⟩,⟨ "Stop",3,8,false, "", "",48⟩]):=by kernel_rfl
theorem u65:Tryz.prog.underlying 65=some (.int .i8):=by kernel_rfl
theorem u67:Tryz.prog.underlying 67=some (.slice 98):=by kernel_rfl
theorem u68:Tryz.prog.underlying 68=some (.slice 70):=by kernel_rfl
theorem u70:Tryz.prog.underlying 70=some (.struct #[⟨ "Op",65,0,false, "", "",0⟩,⟨ "N",2,1,false, "", "",8⟩,⟨ "Name",9,2,false, "", "",16⟩,⟨ "Kids",68,3,false, "", "",32⟩]):=by kernel_rfl
theorem u71:Tryz.prog.underlying 71=some (.slice 114):=by kernel_rfl
theorem u73:Tryz.prog.underlying 73=some (.struct #[⟨ "Op",65,0,false, "", "",0⟩,⟨ "Set",67,1,false, "", "",8⟩,⟨ "N",3,2,false, "", "",32⟩,⟨ "Level",3,3,false, "", "",40⟩,⟨ "G",70,4,false, "", "",48⟩,⟨ "Acts",71,8,false, "", "",104⟩,⟨ "To",3,9,false, "", "",128⟩]):=by kernel_rfl
theorem u98:Tryz.prog.underlying 98=some (.struct #[⟨ "Lo",21,0,false, "", "",0⟩,⟨ "Hi",21,1,false, "", "",4⟩]):=by kernel_rfl
theorem u114:Tryz.prog.underlying 114=some (.struct #[⟨ "Op",65,0,false, "", "",0⟩,⟨ "N",3,1,false, "", "",8⟩]):=by kernel_rfl
theorem w32{z:Int}(h:(Lit.int .i32 z).wf=true):oX z:=by
 have h:IntKind.i32.min<=z/\z<=IntKind.i32.max:=by simpa [Lit.wf]using h
 rwa[show IntKind.i32.min= -2147483648 from rfl,show IntKind.i32.max=2147483647 from rfl]at h
theorem w8{z:Int}(h:(Lit.int .i8 z).wf=true): -128<=z/\z<=127:=by
 have h:IntKind.i8.min<=z/\z<=IntKind.i8.max:=by simpa [Lit.wf]using h
 rwa[show IntKind.i8.min= -128 from rfl,show IntKind.i8.max=127 from rfl]at h
theorem w64{z:Int}(h:(Lit.int .i64 z).wf=true):RN z:=by
 have h:IntKind.i64.min<=z/\z<=IntKind.i64.max:=by simpa [Lit.wf]using h
 rwa[show IntKind.i64.min= -9223372036854775808 from rfl,show IntKind.i64.max=9223372036854775807 from rfl]at h
theorem afu: ∀g:G,(gC g).length=4
 | .mk .. =>by simp[gC]
theorem Ix: ∀{l:List G},(∀u∈l,dV u)->xC l
 |[],_=>by simp[xC]
 |a::l,h=>by simp only[xC];exact⟨h a oaj,Ix λu hu=>h u (by simp[hu])⟩
theorem Iy: ∀{l:List G},(∀u∈l,u7 u)->Aq l
 |[],_=>by simp[Aq]
 |a::l,h=>by simp only[Aq];exact⟨h a oaj,Iy λu hu=>h u (by simp[hu])⟩
mutual
def muG:G->Nat
 | .mk _ _ s l=>s.size+4+Z0 l
def Z0:List G->Nat
 |[]=>1
 |g::l=>muG g+Z0 l
end
theorem E1: ∀l:List G,Z0 l=muL muG l
 |[]=>by simp[Z0,muL]
 |g::l=>by simp[Z0,muL,E1 l]
abbrev mu3(_:Int×Int):Nat:=3
def muR(r:bI):Nat:=r.name.size+10
def muE(e:Edge):Nat:=5+muL mu3 e.set+muG e.g+muL mu3 e.bL
def muS(s:State):Nat:=2+muL muE s.ah
def muN(n:Net):Nat:=1+muL (λs:ByteArray=>s.size+1) n.types+muL (λs:ByteArray=>s.size+1) n.aJ+muL (λs:ByteArray=>s.size+1) n.bu+muL muR n.rules+muL muS n.aa
structure Qw(e:Edge):Prop where
 fit:GD e
 set: ∀r∈e.set,oX r.1/\oX r.2
 num:u7 e.g
def FitM(n:Net):Prop:= ∀s∈n.aa,∀e∈s.ah,Qw e
theorem Z1{n:Nat}:Rd Tryz.prog enc W hW n aP (λr=>oX r.1/\oX r.2) mu3 98:=λcs x h hw=>by obtain⟨m,ds,hm,hl,hb,hf⟩:=v9 u98 h hw;obtain⟨y0,d0,h0,w0⟩:=hf 0 _ rfl;obtain⟨a0,q0,m0,r0⟩:=fld (o:=0) (s:=1) (t:=21) (hC<|u21) rfl oab rfl h0 w0;have m0:1<=Rows.uptoBulk y0.1:=m0;have b0:Rows.uptoBulkAll (ds.drop 0)=Rows.uptoBulk y0.1+Rows.uptoBulkAll (ds.drop 1):=bU d0;obtain⟨y1,d1,h1,w1⟩:=hf 1 _ rfl;obtain⟨a1,q1,m1,r1⟩:=fld (o:=1) (s:=1) (t:=21) (hC<|u21) rfl oab rfl h1 w1;have m1:1<=Rows.uptoBulk y1.1:=m1;have b1:Rows.uptoBulkAll (ds.drop 1)=Rows.uptoBulk y1.1+Rows.uptoBulkAll (ds.drop 2):=bU d1;have hl:cs.length=2:=hl.trans oab;exact⟨(a0,a1),⟨w32 q0,w32 q1⟩,(by show 3<=_;omega),whole hl (glue r0 r1)⟩
theorem afv{n:Nat}:Rd Tryz.prog enc W hW n cO (λ_=>True) mu3 114:=λcs x h hw=>by obtain⟨m,ds,hm,hl,hb,hf⟩:=v9 u114 h hw;obtain⟨y0,d0,h0,w0⟩:=hf 0 _ rfl;obtain⟨a0,q0,m0,r0⟩:=fld (o:=0) (s:=1) (t:=65) (hC<|u65) rfl oab rfl h0 w0;have m0:1<=Rows.uptoBulk y0.1:=m0;have b0:Rows.uptoBulkAll (ds.drop 0)=Rows.uptoBulk y0.1+Rows.uptoBulkAll (ds.drop 1):=bU d0;obtain⟨y1,d1,h1,w1⟩:=hf 1 _ rfl;obtain⟨a1,q1,m1,r1⟩:=fld (o:=1) (s:=1) (t:=3) (hC<|u3) rfl oab rfl h1 w1;have m1:1<=Rows.uptoBulk y1.1:=m1;have b1:Rows.uptoBulkAll (ds.drop 1)=Rows.uptoBulk y1.1+Rows.uptoBulkAll (ds.drop 2):=bU d1;have hl:cs.length=2:=hl.trans oab;exact⟨(a0,a1),trivial,(by show 3<=_;omega),whole hl (glue r0 r1)⟩
theorem abP{n:Nat}:Rd Tryz.prog enc W hW n aC (λ_=>True) muR 56:=λcs x h hw=>by obtain⟨m,ds,hm,hl,hb,hf⟩:=v9 u56 h hw;obtain⟨y0,d0,h0,w0⟩:=hf 0 _ rfl;obtain⟨a0,q0,m0,r0⟩:=fld (o:=0) (s:=1) (t:=9) (AK<|u9) rfl oab rfl h0 w0;have m0:a0.size+1<=Rows.uptoBulk y0.1:=m0;have b0:Rows.uptoBulkAll (ds.drop 0)=Rows.uptoBulk y0.1+Rows.uptoBulkAll (ds.drop 1):=bU d0;obtain⟨y1,d1,h1,w1⟩:=hf 1 _ rfl;obtain⟨a1,q1,m1,r1⟩:=fld (o:=1) (s:=1) (t:=4) (vL<|u4) rfl oab rfl h1 w1;have m1:1<=Rows.uptoBulk y1.1:=m1;have b1:Rows.uptoBulkAll (ds.drop 1)=Rows.uptoBulk y1.1+Rows.uptoBulkAll (ds.drop 2):=bU d1;obtain⟨y2,d2,h2,w2⟩:=hf 2 _ rfl;obtain⟨a2,q2,m2,r2⟩:=fld (o:=2) (s:=1) (t:=4) (vL<|u4) rfl oab rfl h2 w2;have m2:1<=Rows.uptoBulk y2.1:=m2;have b2:Rows.uptoBulkAll (ds.drop 2)=Rows.uptoBulk y2.1+Rows.uptoBulkAll (ds.drop 3):=bU d2;obtain⟨y3,d3,h3,w3⟩:=hf 3 _ rfl;obtain⟨a3,q3,m3,r3⟩:=fld (o:=3) (s:=1) (t:=4) (vL<|u4) rfl oab rfl h3 w3;have m3:1<=Rows.uptoBulk y3.1:=m3;have b3:Rows.uptoBulkAll (ds.drop 3)=Rows.uptoBulk y3.1+Rows.uptoBulkAll (ds.drop 4):=bU d3;obtain⟨y4,d4,h4,w4⟩:=hf 4 _ rfl;obtain⟨a4,q4,m4,r4⟩:=fld (o:=4) (s:=1) (t:=4) (vL<|u4) rfl oab rfl h4 w4;have m4:1<=Rows.uptoBulk y4.1:=m4;have b4:Rows.uptoBulkAll (ds.drop 4)=Rows.uptoBulk y4.1+Rows.uptoBulkAll (ds.drop 5):=bU d4;obtain⟨y5,d5,h5,w5⟩:=hf 5 _ rfl;obtain⟨a5,q5,m5,r5⟩:=fld (o:=5) (s:=1) (t:=3) (hC<|u3) rfl oab rfl h5 w5;have m5:1<=Rows.uptoBulk y5.1:=m5;have b5:Rows.uptoBulkAll (ds.drop 5)=Rows.uptoBulk y5.1+Rows.uptoBulkAll (ds.drop 6):=bU d5;obtain⟨y6,d6,h6,w6⟩:=hf 6 _ rfl;obtain⟨a6,q6,m6,r6⟩:=fld (o:=6) (s:=1) (t:=3) (hC<|u3) rfl oab rfl h6 w6;have m6:1<=Rows.uptoBulk y6.1:=m6;have b6:Rows.uptoBulkAll (ds.drop 6)=Rows.uptoBulk y6.1+Rows.uptoBulkAll (ds.drop 7):=bU d6;obtain⟨y7,d7,h7,w7⟩:=hf 7 _ rfl;obtain⟨a7,q7,m7,r7⟩:=fld (o:=7) (s:=1) (t:=3) (hC<|u3) rfl oab rfl h7 w7;have m7:1<=Rows.uptoBulk y7.1:=m7;have b7:Rows.uptoBulkAll (ds.drop 7)=Rows.uptoBulk y7.1+Rows.uptoBulkAll (ds.drop 8):=bU d7;obtain⟨y8,d8,h8,w8⟩:=hf 8 _ rfl;obtain⟨a8,q8,m8,r8⟩:=fld (o:=8) (s:=1) (t:=3) (hC<|u3) rfl oab rfl h8 w8;have m8:1<=Rows.uptoBulk y8.1:=m8;have b8:Rows.uptoBulkAll (ds.drop 8)=Rows.uptoBulk y8.1+Rows.uptoBulkAll (ds.drop 9):=bU d8;have hl:cs.length=9:=hl.trans oab;exact⟨⟨a0,a1,a2,a3,a4,a5,a6,a7,a8⟩,trivial,(by show a0.size+10<=_;omega),whole hl (glue (glue (glue (glue (glue (glue (glue (glue r0 r1) r2) r3) r4) r5) r6) r7) r8)⟩
theorem Z2: ∀{n:Nat},Rd Tryz.prog enc W hW n gC (λg=>dV g/\u7 g) muG 70:=by
 intro n;induction n using Nat.strongRecOn with
 |ind n ih=>
 intro cs x h hw;obtain⟨m,ds,hm,hl,hb,hf⟩:=v9 u70 h hw;obtain⟨y0,d0,h0,w0⟩:=hf 0 _ rfl;obtain⟨a0,q0,m0,r0⟩:=fld (o:=0) (s:=1) (t:=65) (hC<|u65) rfl oab rfl h0 w0;have m0:1<=Rows.uptoBulk y0.1:=m0;have b0:Rows.uptoBulkAll (ds.drop 0)=Rows.uptoBulk y0.1+Rows.uptoBulkAll (ds.drop 1):=bU d0;obtain⟨y1,d1,h1,w1⟩:=hf 1 _ rfl;obtain⟨a1,q1,m1,r1⟩:=fld (o:=1) (s:=1) (t:=2) (hC<|u2) rfl oab rfl h1 w1;have m1:1<=Rows.uptoBulk y1.1:=m1;have b1:Rows.uptoBulkAll (ds.drop 1)=Rows.uptoBulk y1.1+Rows.uptoBulkAll (ds.drop 2):=bU d1;obtain⟨y2,d2,h2,w2⟩:=hf 2 _ rfl;obtain⟨a2,q2,m2,r2⟩:=fld (o:=2) (s:=1) (t:=9) (AK<|u9) rfl oab rfl h2 w2;have m2:a2.size+1<=Rows.uptoBulk y2.1:=m2;have b2:Rows.uptoBulkAll (ds.drop 2)=Rows.uptoBulk y2.1+Rows.uptoBulkAll (ds.drop 3):=bU d2;obtain⟨y3,d3,h3,w3⟩:=hf 3 _ rfl;obtain⟨a3,q3,m3,r3⟩:=fld (o:=3) (s:=1) (t:=68) (mV (S:=4) (by':=56) (mu:=muG) (u68) oab oab oaa afu<|λk hk=>ih k oaa) rfl oab rfl h3 w3;have m3:muL muG a3<=Rows.uptoBulk y3.1:=m3;have b3:Rows.uptoBulkAll (ds.drop 3)=Rows.uptoBulk y3.1+Rows.uptoBulkAll (ds.drop 4):=bU d3;have hl:cs.length=4:=hl.trans oab;refine⟨.mk a0 a1 a2 a3,⟨?_,?_⟩,?_,?_⟩
 ·simp only[dV];exact⟨w8 q0,q2,q3.1,Ix λu hu=>(q3.2.2 u hu).1⟩
 ·simp only[u7];exact⟨w64 q1,Iy λu hu=>(q3.2.2 u hu).2⟩
 ·simp only[muG,E1];omega
 ·simp only[gC,Dp];exact whole hl (glue (glue (glue r0 r1) r2) r3)
theorem abQ{n:Nat}:Rd Tryz.prog enc W hW n aQ Qw muE 73:=λcs x h hw=>by obtain⟨m,ds,hm,hl,hb,hf⟩:=v9 u73 h hw;obtain⟨y0,d0,h0,w0⟩:=hf 0 _ rfl;obtain⟨a0,q0,m0,r0⟩:=fld (o:=0) (s:=1) (t:=65) (hC<|u65) rfl oab rfl h0 w0;have m0:1<=Rows.uptoBulk y0.1:=m0;have b0:Rows.uptoBulkAll (ds.drop 0)=Rows.uptoBulk y0.1+Rows.uptoBulkAll (ds.drop 1):=bU d0;obtain⟨y1,d1,h1,w1⟩:=hf 1 _ rfl;obtain⟨a1,q1,m1,r1⟩:=fld (o:=1) (s:=1) (t:=67) (mV (S:=2) (by':=8) (mu:=mu3) (u67) oab oab oaa (λ_=>rfl)<|λ_ _=>Z1) rfl oab rfl h1 w1;have m1:muL mu3 a1<=Rows.uptoBulk y1.1:=m1;have b1:Rows.uptoBulkAll (ds.drop 1)=Rows.uptoBulk y1.1+Rows.uptoBulkAll (ds.drop 2):=bU d1;obtain⟨y2,d2,h2,w2⟩:=hf 2 _ rfl;obtain⟨a2,q2,m2,r2⟩:=fld (o:=2) (s:=1) (t:=3) (hC<|u3) rfl oab rfl h2 w2;have m2:1<=Rows.uptoBulk y2.1:=m2;have b2:Rows.uptoBulkAll (ds.drop 2)=Rows.uptoBulk y2.1+Rows.uptoBulkAll (ds.drop 3):=bU d2;obtain⟨y3,d3,h3,w3⟩:=hf 3 _ rfl;obtain⟨a3,q3,m3,r3⟩:=fld (o:=3) (s:=1) (t:=3) (hC<|u3) rfl oab rfl h3 w3;have m3:1<=Rows.uptoBulk y3.1:=m3;have b3:Rows.uptoBulkAll (ds.drop 3)=Rows.uptoBulk y3.1+Rows.uptoBulkAll (ds.drop 4):=bU d3;obtain⟨y4,d4,h4,w4⟩:=hf 4 _ rfl;obtain⟨a4,q4,m4,r4⟩:=fld (o:=4) (s:=4) (t:=70) Z2 rfl oab rfl h4 w4;have m4:muG a4<=Rows.uptoBulk y4.1:=m4;have b4:Rows.uptoBulkAll (ds.drop 4)=Rows.uptoBulk y4.1+Rows.uptoBulkAll (ds.drop 5):=bU d4;obtain⟨y5,d5,h5,w5⟩:=hf 5 _ rfl;obtain⟨a5,q5,m5,r5⟩:=fld (o:=8) (s:=1) (t:=71) (mV (S:=2) (by':=16) (mu:=mu3) (u71) oab oab oaa (λ_=>rfl)<|λ_ _=>afv) rfl oab rfl h5 w5;have m5:muL mu3 a5<=Rows.uptoBulk y5.1:=m5;have b5:Rows.uptoBulkAll (ds.drop 5)=Rows.uptoBulk y5.1+Rows.uptoBulkAll (ds.drop 6):=bU d5;obtain⟨y6,d6,h6,w6⟩:=hf 6 _ rfl;obtain⟨a6,q6,m6,r6⟩:=fld (o:=9) (s:=1) (t:=3) (hC<|u3) rfl oab rfl h6 w6;have m6:1<=Rows.uptoBulk y6.1:=m6;have b6:Rows.uptoBulkAll (ds.drop 6)=Rows.uptoBulk y6.1+Rows.uptoBulkAll (ds.drop 7):=bU d6;have hl:cs.length=10:=hl.trans oab;have r4:aB (sF W hW) (λ_=>none) [I8 a4.op,I a4.n,S a4.name,.sl 4 (a4.kids.map gC)] _:=(show gC a4=_ from by rw[<-Jj])▸r4;exact⟨⟨a0,a1,a2,a3,a4,a5,a6⟩,⟨⟨q4.1,w8 q0,q1.1,q5.1⟩,q1.2.2,q4.2⟩,(by show 5+muL mu3 a1+muG a4+muL mu3 a5<=_;omega),whole hl (glue (glue (glue (glue (glue (glue r0 r1) r2) r3) r4) r5) r6)⟩
theorem Z3{n:Nat}:Rd Tryz.prog enc W hW n aq (λs=> ∀e∈s.ah,Qw e) muS 45:=λcs x h hw=>by obtain⟨m,ds,hm,hl,hb,hf⟩:=v9 u45 h hw;obtain⟨y0,d0,h0,w0⟩:=hf 0 _ rfl;obtain⟨a0,q0,m0,r0⟩:=fld (o:=0) (s:=1) (t:=3) (hC<|u3) rfl oab rfl h0 w0;have m0:1<=Rows.uptoBulk y0.1:=m0;have b0:Rows.uptoBulkAll (ds.drop 0)=Rows.uptoBulk y0.1+Rows.uptoBulkAll (ds.drop 1):=bU d0;obtain⟨y1,d1,h1,w1⟩:=hf 1 _ rfl;obtain⟨a1,q1,m1,r1⟩:=fld (o:=1) (s:=1) (t:=43) (mV (S:=10) (by':=136) (mu:=muE) (u43) oab oab oaa (λ_=>rfl)<|λ_ _=>abQ) rfl oab rfl h1 w1;have m1:muL muE a1<=Rows.uptoBulk y1.1:=m1;have b1:Rows.uptoBulkAll (ds.drop 1)=Rows.uptoBulk y1.1+Rows.uptoBulkAll (ds.drop 2):=bU d1;have hl:cs.length=2:=hl.trans oab;exact⟨⟨a0,a1⟩,q1.2.2,(by show 2+muL muE a1<=_;omega),whole hl (glue r0 r1)⟩
theorem afw{n:Nat}:Rd Tryz.prog enc W hW n bA FitM muN 26:=λcs x h hw=>by obtain⟨m,ds,hm,hl,hb,hf⟩:=v9 u26 h hw;obtain⟨y0,d0,h0,w0⟩:=hf 0 _ rfl;obtain⟨a0,q0,m0,r0⟩:=fld (o:=0) (s:=1) (t:=22) (mV (S:=1) (by':=16) (mu:=(λs:ByteArray=>s.size+1)) (u22) oab oab oaa (λ_=>rfl)<|λ_ _=>AK u9) rfl oab rfl h0 w0;have m0:muL (λs:ByteArray=>s.size+1) a0<=Rows.uptoBulk y0.1:=m0;have b0:Rows.uptoBulkAll (ds.drop 0)=Rows.uptoBulk y0.1+Rows.uptoBulkAll (ds.drop 1):=bU d0;obtain⟨y1,d1,h1,w1⟩:=hf 1 _ rfl;obtain⟨a1,q1,m1,r1⟩:=fld (o:=1) (s:=1) (t:=22) (mV (S:=1) (by':=16) (mu:=(λs:ByteArray=>s.size+1)) (u22) oab oab oaa (λ_=>rfl)<|λ_ _=>AK u9) rfl oab rfl h1 w1;have m1:muL (λs:ByteArray=>s.size+1) a1<=Rows.uptoBulk y1.1:=m1;have b1:Rows.uptoBulkAll (ds.drop 1)=Rows.uptoBulk y1.1+Rows.uptoBulkAll (ds.drop 2):=bU d1;obtain⟨y2,d2,h2,w2⟩:=hf 2 _ rfl;obtain⟨a2,q2,m2,r2⟩:=fld (o:=2) (s:=1) (t:=22) (mV (S:=1) (by':=16) (mu:=(λs:ByteArray=>s.size+1)) (u22) oab oab oaa (λ_=>rfl)<|λ_ _=>AK u9) rfl oab rfl h2 w2;have m2:muL (λs:ByteArray=>s.size+1) a2<=Rows.uptoBulk y2.1:=m2;have b2:Rows.uptoBulkAll (ds.drop 2)=Rows.uptoBulk y2.1+Rows.uptoBulkAll (ds.drop 3):=bU d2;obtain⟨y3,d3,h3,w3⟩:=hf 3 _ rfl;obtain⟨a3,q3,m3,r3⟩:=fld (o:=3) (s:=1) (t:=23) (mV (S:=9) (by':=56) (mu:=muR) (u23) oab oab oaa (λ_=>rfl)<|λ_ _=>abP) rfl oab rfl h3 w3;have m3:muL muR a3<=Rows.uptoBulk y3.1:=m3;have b3:Rows.uptoBulkAll (ds.drop 3)=Rows.uptoBulk y3.1+Rows.uptoBulkAll (ds.drop 4):=bU d3;obtain⟨y4,d4,h4,w4⟩:=hf 4 _ rfl;obtain⟨a4,q4,m4,r4⟩:=fld (o:=4) (s:=1) (t:=24) (mV (S:=2) (by':=32) (mu:=muS) (u24) oab oab oaa (λ_=>rfl)<|λ_ _=>Z3) rfl oab rfl h4 w4;have m4:muL muS a4<=Rows.uptoBulk y4.1:=m4;have b4:Rows.uptoBulkAll (ds.drop 4)=Rows.uptoBulk y4.1+Rows.uptoBulkAll (ds.drop 5):=bU d4;have hl:cs.length=5:=hl.trans oab;exact⟨⟨a0,a1,a2,a3,a4⟩,q4.2.2,(by show 1+muL (λs:ByteArray=>s.size+1) a0+muL (λs:ByteArray=>s.size+1) a1+muL (λs:ByteArray=>s.size+1) a2+muL muR a3+muL muS a4<=_;omega),whole hl (glue (glue (glue (glue r0 r1) r2) r3) r4)⟩
theorem abR{v:Value}{base:Nat}{d:DataW H}{p:List MemPlace}(hval:Value.okWide Tryz.prog W .any base 26 v)(h:DataW.Trod enc Tryz.prog W 0 (λ_=>true) true 26 v d p)(hw: ∀w∈d.weights Tryz.prog 26,w<=reachBytes):∃n:Net,FitM n/\muN n<=Rows.uptoBulk d/\Rep (sF W hW) (λ_=>none) (.ag<|bA n) v:=by obtain⟨cs,rfl,_⟩:=okWide_struct u26 hval;obtain⟨fuel,hf⟩:=h;obtain⟨n,h1,h3,h2⟩:=afw (hW:=hW) _ _ hf hw;refine⟨n,h1,h3,?_⟩;simp only[Rep];exact⟨_,by simp[Value.cells],h2⟩
end
theorem st_eq{n:Net}(hx:YY n){i:Nat}(hi:i<n.aa.length):kW n i=kV n i:=by
 have h:kW n i=false↔kV n i=false:=by
  unfold kW kV;rw[bO,bO];refine forall_congr' λk=>imp_congr_right λhk=> ?_;have h4:vm n i k=false↔((ae (ae n.aa i).ah k).op=4->(ae (ae n.aa i).ah k).n∉cP n i k):=by
   unfold vm;rw[bO,YX];constructor
   ·grind[rA]
   ·intro h j hj;unfold rA;grind
  show fh n i k=false↔_;grind[abB,rC]
 simp_all
theorem afx{n:Net}(hx:YY n):r28 n=r33 n:=by
 have key: ∀i,i<n.aa.length->pI n i=nX n i:=(by grind[pI,nX,st_eq]);show(!dA n.aa.length (pI n))= !dA n.aa.length (nX n);congr 1;cases e1:dA n.aa.length (nX n)with
 |false=>grind[bO]
 |true=>grind[fD]
theorem Z4{n:Net}(hx:YY n):r10 n=r11 n:=by
 unfold r10 r11;rw[aeH,aeE,afx hx];cases h1:r31 n with
 |false=>rfl
 |true=>
  cases h2:r32 n with
  |false=>rfl
  |true=>
   cases h3:r33 n with
   |false=>rfl
   |true=>have hn:=Xt h2 h3;have ho:=ownOf h2 h3;have he:=abu hn ho.ne;rw[aey hn ho,KM he,abx hn he,abz hn ho.aH (lexOf h3)];simp only[Bool.not_true,ag0,af8]
def sH(s:ByteArray):(az s).length<=9*(s.size+1):=by have:=cG (s.size:Int);simp only[az,afQ,fq];omega
def iK{α:Type}{one:α->lXA}{mu:α->Nat}: ∀{l:List α},(∀x∈l,(one x).length<=9*mu x)->(ay one l).length<=9*muL mu l:=by
 have key: ∀l:List α,(∀x∈l,(one x).length<=9*mu x)->(l.flatMap one).length+9<=9*muL mu l:=by
  intro l;induction l with
  |nil=>intro _;simp[muL]
  |cons x l ih=>intro h;have h1:=h x oaj;have h2:=ih λy hy=>h y (by simp[hy]);simp only[List.flatMap_cons,afQ,muL];omega
 intro l h;have h1:=key l h;have h2:=cG (l.length:Int);simp only[ay,afQ];omega
def Sc: ∀g:G,(aM g).length<=9*muG g:=G.xB λo n s l ih=>by
 have h1:=iK ih;have h2:=cG (wrap .i64 o);rw[fF];have h3:(opF<|.mk o n s l).length<=9:=by
  unfold opF;cases (G.mk o n s l).op==8||(G.mk o n s l).op==9 with
  |true=>exact jj _
  |false=>
   cases (G.mk o n s l).op==3||(G.mk o n s l).op==4 with
   |true=>exact cG _
   |false=>simp
 have h4:(l.flatMap aM).length<=(ay aM l).length:=by simp[ay]
 simp only[afQ,muG,E1];show _<=9*(s.size+4+muL muG l);have h5:(ai<|wrap .i64 (G.mk o n s l).op).length<=9:=cG _;have h6:((G.mk o n s l).kids.flatMap aM).length<=(ay aM l).length:=h4;omega
def Z5(e:Edge):(cc e).length<=9*muE e:=by
 have h0:=cG (wrap .i64 e.op);have h1:=cG e.to;have h2:=cG e.n;have h3:=cG e.level;have h4:=Sc e.g;have h5:(ay gJ e.set).length<=9*muL mu3 e.set:=iK λx _=>by have a:=cG (wrap .i64 x.1);have b:=cG (wrap .i64<|wrap .i32<|x.2-x.1);simp only[gJ,afQ,mu3];omega
 have h6:(ay dY e.bL).length<=9*muL mu3 e.bL:=iK λx _=>by have a:=cG (wrap .i64 x.1);have b:=cG x.2;simp only[dY,afQ,mu3];omega
 have h7:(fv e).length<=9*(2+muL mu3 e.set+muG e.g+muL mu3 e.bL):=by
  unfold fv;cases e.op==1
  ·cases e.op==2||e.op==5
   ·cases e.op==4
    ·cases e.op==3
     ·cases e.op==7
      ·simp
      ·show(ay dY e.bL).length<=_;omega
     ·show(aM e.g).length<=_;omega
    ·show(ai e.n).length<=_;omega
   ·show(ai e.n++ai e.level).length<=_;rw[afQ];omega
  ·show(ay gJ e.set).length<=_;omega
 simp only[cc,afQ,muE];omega
def Sd(n:Net):(dt n).length<=9*muN n:=by
 have h1:(ay az n.types).length<=9*muL (λs:ByteArray=>s.size+1) n.types:=iK λx _=>sH x;have h2:(ay az n.aJ).length<=9*muL (λs:ByteArray=>s.size+1) n.aJ:=iK λx _=>sH x;have h3:(ay az n.bu).length<=9*muL (λs:ByteArray=>s.size+1) n.bu:=iK λx _=>sH x;have h4:(ay cp n.rules).length<=9*muL muR n.rules:=iK λr _=>by have a:=sH r.name;have b:=cG r.mode;have c:=cG r.type;have d:=cG r.start;have e:=cG r.stop;simp only[cp,afQ,agb,agt,muR];omega
 have h5:(ay bR n.aa).length<=9*muL muS n.aa:=iK λs _=>by have a:=cG s.aH;have b:(ay cc s.ah).length<=9*muL muE s.ah:=iK λe _=>Z5 e;simp only[bR,afQ,muS];omega
 simp only[dt,eT,afQ,agb,agt,muN];omega
structure iQ(n:Net):Prop where
 m:FitM n
 small:muN n<=1048576
section
variable{n:Net}
theorem iQ.st(h:iQ n){s:State}(hs:s∈n.aa):muS s<=1048576:=by have h1:=h.small;have h2:=E0 (mu:=muS) hs;unfold muN at h1;omega
theorem iQ.ed(h:iQ n){s:State}(hs:s∈n.aa){e:Edge}(he:e∈s.ah):muE e<=1048576:=by have h1:=h.st hs;have h2:=E0 (mu:=muE) he;unfold muS at h1;omega
theorem iQ.lens(h:iQ n):n.types.length<=1048576/\n.aJ.length<=1048576/\n.bu.length<=1048576/\n.rules.length<=524288/\n.aa.length<=524288:=by have h0:=h.small;have h1:=lh (mu:=λs:ByteArray=>s.size+1) (c:=1) (λ_=>by omega) n.types;have h2:=lh (mu:=λs:ByteArray=>s.size+1) (c:=1) (λ_=>by omega) n.aJ;have h3:=lh (mu:=λs:ByteArray=>s.size+1) (c:=1) (λ_=>by omega) n.bu;have h4:=lh (mu:=muR) (c:=10) (λ_=>by unfold muR;omega) n.rules;have h5:=lh (mu:=muS) (c:=2) (λ_=>by unfold muS;omega) n.aa;unfold muN at h0;omega
theorem iQ.fit(h:iQ n):ck n:=by have h0:=h.lens;refine⟨by omega,by omega,by omega,by omega,by omega,λs hs=> ?_,λs hs e he=>(h.m s hs e he).fit⟩;have a:=h.st hs;have b:=lh (mu:=muE) (c:=5) (λ_=>by unfold muE;omega) s.ah;unfold muS at a;omega
theorem iQ.x(h:iQ n):YY n:=⟨λs hs e he=>(h.m s hs e he).fit.op,λs hs e he=>(h.m s hs e he).set⟩
theorem iQ.b(h:iQ n):ET n:=by have hf:=h.fit;refine⟨hf,hf.types,hf.rz,hf.bu,λs hs e he=>⟨(hf.xK s hs e he).set,(hf.xK s hs e he).bL,(hf.xK s hs e he).g⟩,?_⟩;have:=Sd n;have:=h.small;omega
end
def afy{l:List (Int×Int)}(hr:r91 l=0)(hi: ∀r∈l,oX r.1/\oX r.2)(h0:0<=(ae l 0).1): ∀i,i<l.length->0<=(ae l i).1/\(ae l i).1<=(ae l i).2:=by
 have hh:oO l=false:=by
  unfold r91 at hr;cases h:oO l with
  |false=>rfl
  |true=>rw[h]at hr;cases hr
 intro i;induction i with
 |zero=>intro h;have:=bO.1 hh 0 h;unfold nU at this;simp only[af4,aga]at this;exact⟨h0,by omega⟩
 |succ i ih=>intro h;obtain⟨a,b⟩:=ih oaa;have:=bO.1 hh (i+1) h;unfold nU at this;rw[af4,Bool.and_eq_false_iff,aga,aga,aga]at this;obtain⟨h1,h2⟩:=this;have⟨⟨c1,c2⟩,_⟩:=hi _ (aw h);have⟨_,⟨d1,d2⟩⟩:=hi _ (aw<|show i<l.length by omega);simp only[Nat.add_sub_cancel]at h2;rw[wrap_i64 (a:=(ae l<|i+1).1) oaa oaa,wrap_i64 (a:=(ae l i).2) oaa oaa,wrap_i64 oaa oaa]at h2;omega
def Z6{l:List (Int×Int)}(hr:r91 l=0)(hi: ∀r∈l,oX r.1/\oX r.2)(h0:0<=(ae l 0).1):ay cu l=ay gJ l:=by
 have h: ∀x∈l,cu x=gJ x:=λx hx=>by
  obtain⟨i,h1,rfl⟩:=bZ hx;obtain⟨a,b⟩:=afy hr hi h0 i h1;have⟨⟨c1,c2⟩,⟨d1,d2⟩⟩:=hi _ hx;have e:wrap .i32 ((ae l i).2-(ae l i).1)=(ae l i).2-(ae l i).1:=by
   have hd:0<=(ae l i).2-(ae l i).1/\(ae l i).2-(ae l i).1<=2147483647:=by omega
   generalize(ae l i).2-(ae l i).1=d at hd;have:wrap .i32 d=if 2147483648<=d%4294967296 then d%4294967296-4294967296 else d%4294967296:=by simp[wrap,IntKind.signed,IntKind.bits]
   rw[this];split<;>omega
  unfold cu gJ;rw[e,wrap_i64 (a:=(ae l i).1) oaa oaa,wrap_i64 (a:=(ae l i).2) oaa oaa]
 simp only[ay,List.flatMap_def];rw[agU h]
def afz{n:Net}{s:State}{i:Int}{e:Edge}(hx:Qw e)(h:r68 n s i e=true):WE e:=by
 refine⟨?_,hx.fit.set,hx.fit.bL,hx.fit.g,hx.num,λh1=> ?_⟩
 ·have h8:=hx.fit.op;by_cases h0:e.op<0\/8<=e.op
  ·exfalso;have ne: ∀j:Int,0<=j->j<8->(e.op==j)=false:=λj h1 h2=>beq_eq_false_iff_ne.2 oaa;unfold r68 at h;simp only[ne 0 oaa oaa,ne 1 oaa oaa,ne 2 oaa oaa,ne 4 oaa oaa,ne 5 oaa oaa,ne 6 oaa oaa,ne 7 oaa oaa,show(e.op !=3)=true from by simp[bne,ne 3 oaa oaa],af2,af8,Bool.or_self,Bool.and_false]at h;cases h
  ·omega
 ·have he:e.op=1:=eq_of_beq h1;unfold r68 at h;rw[he]at h;simp only[show((1:Int) !=3)=true from rfl,show((1:Int)==1)=true from rfl,af2,afJ,af3]at h;have hs:r91 e.set=0:=by have:=h.2.1;simpa using this
  have h0:0<=(ae e.set 0).1:=by
   have h4:=h.2.2.2.2.2.2;revert h4;cases !(aF n.rules s.aH).bN with
   |true=>intro h4;simp only[af2,afJ,af3,aga]at h4;have:=h4.1;omega
   |false=>intro h4;simp only[af8,afJ,af3,aga]at h4;have:=h4.1;omega
  exact Z6 hs hx.set h0
def we_of{n:Net}(hz:iQ n)(hA:((r11 n) !=0)=false): ∀s∈n.aa,∀e∈s.ah,WE e:=by
 have h:r11 n=0:=by simpa using hA
 unfold r11 at h;cases h1:r31 n with
 |false=>rw[h1]at h;cases h
 |true=>
  cases h2:r32 n with
  |false=>rw[h1,h2]at h;cases h
  |true=>
   cases h3:r33 n with
   |false=>rw[h1,h2,h3]at h;cases h
   |true=>intro s hs e he;have hx:=hz.m s hs e he;obtain⟨i,hi,rfl⟩:=bZ hs;obtain⟨k,hk,rfl⟩:=bZ he;exact afz hx ((qi h3 hi).2 k hk)
def Se:BD Tryz.prog (λ_=>false) 3000 60 7 [] .e 0 ⟨0,[],[]⟩= .ret (.v<|.bool true) .e 0 ⟨0,[],[]⟩:=by kernel_rfl
def Sf:aY pg 7 [] [] [] (.v<|.bool true) []:=Je (xe mixed _ _ _) Se rfl
def Qx:Code:=bD 0 (aG 6)
def Z7(n:Net)(i0:Nat)(y0:Int):Int:=(wrap .i64<|y0+(length (map aQ (ae n.aa i0).ah):Int))
def fR(n:Net)(kk:Nat):Int:=Nat.rec (motive:=λ_=>Int) ((length (map aC n.rules)+length (map aq n.aa)+length (map a9 n.types)+length (map a9 n.aJ)+length (map a9 n.bu):Nat):Int) (λj a=>Z7 n j a) kk
abbrev AL(n:Net)(i0:Nat)(y0:Int):Am.Loc:=[(1,.pf (bA n)),(3,I y0),(4,I (i0:Int))]
abbrev Qy(n:Net)(i0:Nat):Am.Loc:=AL n i0 (fR n i0)
abbrev vM(n:Net)(i0:Nat):lXE:=[]
def mW(n:Net)(i0:Nat):Bool:=(!(decide<|(fR n i0)<=6000))
def CL(n:Net):Bool:=dA (length n.aa) (mW n)
abbrev Iz(n:Net)(i0:Nat):Am.Loc:=[(3,I (fR n i0))]
abbrev IA(n:Net)(i0:Nat):lXE:=[]
abbrev IB(n:Net):Am.Loc:=[(3,I (fR n<|length n.aa))]
abbrev IC(n:Net):lXE:=[]
def AM(n:Net):KB:=anK 0 (length n.aa) (mW n) (Qy n) (vM n) (.exit 0) (Iz n) (IA n) (.exit 0) (IB n) (IC n) (True)
abbrev E2(n:Net)(i0:Nat):List bf:=[nxW (mW n i0) (Qy n<|i0+1) (vM n<|i0+1) (AL n (i0+1)<|wrap .i64<|(fR n i0)+(length (zo i0 n):Int)) zb (vM n<|i0+1),htW (mW n i0) (.exit 0) (Iz n i0) zb (IA n i0)]
def LG(n:Net)(hz:iQ n):cx pg 46 0 0 (.loop Qx) (AM n):=
 anB (E2 n) (λi0=>(.r [.k,bT,bT,.k,bT]<|.br (.r [.row (aq<|ae n.aa i0),.int (wrap .i64<|(fR n i0)+(length (map aQ (ae n.aa i0).ah):Int)),bT]<|zU i0)<|.pick 1)) (range 0) (.r [.k,bF,bF,bT]<|.pick 0)
 (λ_ i0(hx0:i0<(length n.aa))=>have hl:=hz.lens;have l1:=aL aC n.rules;have l2:=aL aq n.aa;have l3:=aL a9 n.types;have l4:=aL a9 n.aJ;have l5:=aL a9 n.bu;have l1:=aL aq (n.aa);have hb:(zw i0 n)=true:=afT oaa;
 bB (an (aN 2<|ac hb<|a1 a0)<|brP (λ(h1:(decide<|(fR n i0)<=6000)=true)=>have g1:=afS h1;
 (an (ac (bQ<|wrap .i64<|(fR n i0)+(length (map aQ (ae n.aa i0).ah):Int))<|ac (rwa aq n.aa i0) a0)<|an (ac (dwo ((i0+1:Nat):Int)) a0)<|lf (wy (E2 n i0) 0) 0<|nxP (AL n<|i0+1) (λ_=>vM n<|i0+1) (show mW n i0=false from(cI h1))<|show fR n (i0+1)=(wrap .i64<|(fR n i0)+(length (map aQ (ae n.aa i0).ah):Int))from rfl))<|λh1=>(lf (wy (E2 n i0) 1) 0<|show mW n i0=true from(au h1)))
 oab)
 (λ_=>have hl:=hz.lens;have l1:=aL aC n.rules;have l2:=aL aq n.aa;have l3:=aL a9 n.types;have l4:=aL a9 n.aJ;have l5:=aL a9 n.bu;have l1:=aL aq (n.aa);have hb:(zQ n)=false:=afU oaa;
 bB (an (a1<|ac (au hb)<|a1 a0)<|lx (.exit 0) (IB n) (range 0) (IC n) 0)
 oab)
def pL(n:Net):Bool:=(bif CL n then decide ((fR n<|lB (length n.aa)<|mW n)>6000)else decide<|(fR n<|length n.aa)>6000)
def pj:di [0] (aG 6)=[(0,.loop Qx)]:=by kernel_rfl
def Sg(n:Net)(hz:iQ n):aY pg 6 [.ag (bA n)] [] [] (B<|pL n) []:=
 have hl:=hz.lens;have l1:=aL aC n.rules;have l2:=aL aq n.aa;have l3:=aL a9 n.types;have l4:=aL a9 n.aJ;have l5:=aL a9 n.bu;aV 6 (.r [bT]<|.r [.int ((length (map aC n.rules)+length (map aq n.aa):Nat):Int),.int ((length (map aC n.rules)+length (map aq n.aa)+length (map a9 n.types):Nat):Int),.int ((length (map aC n.rules)+length (map aq n.aa)+length (map a9 n.types)+length (map a9 n.aJ):Nat):Int),.int ((length (map aC n.rules)+length (map aq n.aa)+length (map a9 n.types)+length (map a9 n.aJ)+length (map a9 n.bu):Nat):Int),bT]<|.r [bT]<|.br zAz zAz)
 (an a0<|an (ac (dwo ((length (map aC n.rules)+length (map aq n.aa)+length (map a9 n.types)+length (map a9 n.aJ)+length (map a9 n.bu):Nat):Int))<|ac (dwo ((length (map aC n.rules)+length (map aq n.aa)+length (map a9 n.types)+length (map a9 n.aJ):Nat):Int))<|ac (dwo ((length (map aC n.rules)+length (map aq n.aa)+length (map a9 n.types):Nat):Int))<|ac (dwo ((length (map aC n.rules)+length (map aq n.aa):Nat):Int)) a0)<|an a0<|an (kbT (AM n) trivial)<|brP (λ(h0:(CL n)=true)=>(an (a1 a0)<|bE<|show pL n=_ from(cdT h0 rfl)))<|λh0=>(an (a1 a0)<|bE<|show pL n=_ from(cdF h0 rfl))) (hk:=(bw (l:=[(0,AM n)]) pj (aK (LG n hz) rfl aU) rfl))
theorem CM: ∀l:lXA,gG (l.map u8C).flatten=some (l.map λz=> .int .u8 z)
 |[]=>rfl
 |z::l=>by show(match gG (l.map u8C).flatten with|some xs=>some (Value.int .u8 z::xs)|none=>none)=_;rw[CM l];rfl
theorem AN: ∀l:lXA,bytesOf (l.map λz=> .int .u8 z)=some l
 |[]=>rfl
 |z::l=>by show(match bytesOf (l.map λz=>Value.int .u8 z)with|some zs=>some (z::zs)|none=>none)=_;rw[AN l]
def sI(l:lXA):dec (abX (l.map u8C) l)=true:=aR.2 ⟨by simp[eR,u8C,AV.one],_,CM l,AN l⟩
theorem Sh(l:List UInt8):cT l l=true:=by rw[qJ];simp
def k6{n:Net}{b:Bool}(hf:iQ n)(h:pL n=b):aY pg 6 [.ag (bA n)] [] [] (B b) []:=by have:=Sg n hf;rw[h]at this;exact this
def k10{n:Net}(hz:iQ n)(h:((r11 n) !=0)=true):((r10 n) !=0)=true:=by rw[Z4 hz.x];exact h
def k10'{n:Net}(hz:iQ n)(h:((r11 n) !=0)=false):((r10 n) !=0)=false:=by rw[Z4 hz.x];exact h
def i7:cj:=⟨7,[],B true,True⟩
def g7:(i7).bS pg:=da λhp=>Sf
def afA(n:Net):cj:=⟨6,[jD n],B true,iQ n/\pL n=true⟩
def Z8(n:Net):(afA n).bS pg:=da λhp=>(k6 hp.1 hp.2)
def r3g(n:Net):Bool:=true
section
variable(n:Net)
def law3g(hz:iQ n)(h6:pL n=true):aY pg 3 [.ag (bA n)] [] [] (B<|r3g n) []:=
 aV 3 (.r [bT]<|.r [.int 0,bT]<|.r [.int 1,bT] .nil)
 (an a0<|an (cA (Z8 n) ⟨hz,h6⟩ a0)<|an (cA g7 trivial a0)<|bE<|show r3g n=true from rfl) (hc:=(bn (.cons (Z8 n) rfl<|.cons g7 rfl cy.nil) aE))
def afB:cj:=⟨6,[jD n],B false,iQ n/\pL n=false⟩
def E3:(afB n).bS pg:=da λhp=>(k6 hp.1 hp.2)
def afC:cj:=⟨8,[jD n],.tu [.v (.slice none 0 0),I 110],iQ n/\(zCd n)=true⟩
def Z9:(afC n).bS pg:=da λhp=>(abN n hp.1.fit<|k10 hp.1 hp.2)
def afD:cj:=⟨9,[jD n],.tu [.v (.slice none 0 0),I 110],iQ n/\(zCd n)=true⟩
def aaa:(afD n).bS pg:=da λhp=>(abF n hp.1.fit hp.2)
end
def r3a(n:Net):Bool:=true
section
variable(n:Net)
def law3a(hz:iQ n)(h6:pL n=false)(hA:(zCd n)=true):aY pg 3 [.ag (bA n)] [] [] (B<|r3a n) []:=
 aV 3 (.r [bT]<|.r [.int 0,bT]<|.r [.int 1,bT]<|.r [.int 2,bT]<|.r (.k::uTT 5 [.k,bT,.int 3,bT]) .nil)
 (an a0<|an (cA (E3 n) ⟨hz,h6⟩ a0)<|an (cA (Z9 n) ⟨hz,hA⟩ a0)<|an (cA (aaa n) ⟨hz,hA⟩ a0)<|an (cA g7 trivial<|aN 8 a0)<|bE<|show r3a n=true from rfl) (hc:=(bn (.cons (E3 n) rfl<|.cons (Z9 n) rfl<|.cons (aaa n) rfl<|.cons g7 rfl cy.nil) aE))
def afE:cj:=⟨8,[jD n],.tu [.sl 1 ((dt n).map u8C),I 0],iQ n/\(zCd n)=false⟩
def aab:(afE n).bS pg:=da λhp=>(LF n hp.1.b (we_of hp.1 hp.2)<|k10' hp.1 hp.2)
def afF:cj:=⟨9,[jD n],.tu [.sl 1 ((dt n).map u8C),I 0],iQ n/\(zCd n)=false⟩
def aac:(afF n).bS pg:=da λhp=>(K6 n hp.1.b hp.2)
def r3b:Bool:=(cT (Array.toList<|ByteArray.data<|gk<|dt n)<|Array.toList<|ByteArray.data<|gk<|dt n)
def law3b(hz:iQ n)(h6:pL n=false)(hA:(zCd n)=false):aY pg 3 [.ag (bA n)] [] [] (B<|r3b n) []:=
 aV 3 (.r [bT]<|.r [.int 0,bT]<|.r [.int 1,bT]<|.r [.int 2,bT]<|.a (.r [.k,bT,bT,.str (dt n),bT,bT,.str (dt n),bT,.k,bT,.int 3,bT] .nil)<|.r [.k,bT,bT,.str (dt n),bT,bT,.str (dt n),bT,.k,bF,bT] .nil)
 (an a0<|an (cA (E3 n) ⟨hz,h6⟩ a0)<|an (cA (aab n) ⟨hz,hA⟩ a0)<|an (cA (aac n) ⟨hz,hA⟩ a0)<|aO (λ(h0:(cT (Array.toList<|ByteArray.data<|gk<|dt n)<|Array.toList<|ByteArray.data<|gk<|dt n)=true)=>(an (cA g7 trivial<|ac h0<|aN 2<|ac (sI<|dt n)<|aN 2<|ac (sI<|dt n)<|aN 3 a0)<|bE<|show r3b n=true from h0))<|λh0=>(an (ac (au h0)<|aN 2<|ac (sI<|dt n)<|aN 2<|ac (sI<|dt n)<|aN 3 a0)<|bE<|show r3b n=false from h0)) (hc:=(bn (.cons (E3 n) rfl<|.cons (aab n) rfl<|.cons (aac n) rfl<|.cons g7 rfl cy.nil) aE))
theorem abS(hz:iQ n):aY pg 3 [.ag (bA n)] [] [] (B true) []:=by
 cases h6:pL n with
 |true=>exact law3g n hz h6
 |false=>
  cases hA:((r11 n) !=0)with
  |true=>exact law3a n hz h6 hA
  |false=>have h:=law3b n hz h6 hA;rw[show r3b n=true from Sh _]at h;exact h
end
open Go.ChangeShapes Go.WideShapes Go.ChangeAt Go.RowKit Go.Am
def own:ownKnob Tryz.prog.godebug=none:=by kernel_rfl
theorem kids:Qu Tryz.prog=true:=by kernel_rfl
def aad(W:World): ∀a x,AO a=some x->W.cell? a=some x:=(by grind[AO,Si])
set_option maxRecDepth 100000 in
theorem aae (H:Type) (enc:TypeId×Value->H) (W:World) (base:Nat) (args:Array Value) (ds gs:List (DataW H)) (before:List MemPlace)
  (hval: ∀(j:Nat) t v,Tryz.f3.params[j]? =some t->args[j]? =some v->Value.okWide Tryz.prog W .any base t v)
  (hW:DataW.Whole enc Tryz.prog Tryz.f3.params.toList Rows.packBytesSpec.vars false W args.toList ds gs before) (hk:Rows.uptoSmall H (ds++gs)=true)
  (hz: ∀w∈DataW.weightsEach Tryz.prog (Tryz.f3.params.toList++ []) (ds++gs),w<=reachBytes):
  Calls Tryz.prog 3 args W λe W'=> ∃v,e= .returned v/\Rows.packBytesSpec.post enc Tryz.prog Tryz.f3 false true false false W args v W':=by
 have hW':=hW;obtain⟨p,q,hA,hV,rfl,hfz,hnd⟩:=hW;have hA':DataW.TrodAll enc Tryz.prog W 0 (λ_=>true) true Tryz.f3.params.toList args.toList ds p:=hA;rw[Tryz.params3]at hA' hval hz;obtain⟨v0,vs0,d0,ds0,p0,q0,hargs,rfl,rfl,h0,r0⟩:=trodAll_cons hA';obtain⟨rfl,rfl,rfl⟩:=trodAll_nil r0;obtain rfl:args= #[v0]:=by cases args;simp_all
 obtain⟨rfl,rfl⟩:=trodVars_none hV;obtain⟨n,fm,hb,hr⟩:=abR (hW:=aad W) (hval 0 26 v0 rfl rfl) h0 λw hw=>hz w (jG (i:=0) rfl rfl w hw);have h1:Rows.uptoBulkAll ([d0]++([]:List (DataW H)))<=1048576:=afS hk;simp only[agA,Rows.uptoBulkAll]at h1;refine(Bj (abS n ⟨fm,by omega⟩) W (aad W) (vs:=[v0]) ⟨_,_,rfl,hr,rfl⟩).mono λe W'⟨he,hk⟩=> ?_;subst he;exact⟨_,rfl,R9 hW' hk kids oab rfl (tb:=4) oab oab rfl rfl rfl⟩
set_option maxRecDepth 100000 in
theorem lifted (os:Os) (started:os.Started) (H:Type) (enc:TypeId×Value->H) (F:Stop.Interp):
  ReturnsInHanded {} Tryz.checked os 3 .any ((Rows.OpenSpec.upto Rows.packBytesSpec).pre6 enc Tryz.prog Tryz.f3 Rows.packBytesUptoRow.domain false) (((Rows.OpenSpec.upto Rows.packBytesSpec).at F).post enc Tryz.prog Tryz.f3 false true false false):=by
 refine returnsInHanded_of_cond_sized (C:=Tryz.checked) (s:=Rows.OpenSpec.upto Rows.packBytesSpec) (k:=Rows.uptoSmall) rfl own started oab Tryz.func3
  (OpenSpec.witness (enc:=enc) (C:=Tryz.checked) (s:=Rows.OpenSpec.upto Rows.packBytesSpec) (k:=Rows.uptoSmall) rfl false ⟨#[],#[.agg #[.slice none 0 0,.slice none 0 0,.slice none 0 0,.slice none 0 0,.slice none 0 0]],[]⟩ 8 oab oab oab (x:=([.agg [.nil,.nil,.nil,.nil,.nil]],[],[])) oab rfl oab) ?_
 intro W base args ds gs before hval hW _ hk hz _;exact aae H enc W base args ds gs before hval hW hk λw hw=>afS (agc.1 hz w hw)
def packBytes_upto:Rows.PackBytesUptoSaid:=
 OpenClaim.holds_of_cond 3 Tryz.f3 rfl rfl rfl rfl rfl rfl rfl ⟨rfl,rfl,rfl,rfl,rfl⟩ rfl rfl rfl rfl rfl oab Tryz.func3 oab
  (afS oab) (by unfold Func.isWrapper;first|(rw[if_pos (by decide+kernel)];kernel_rfl)|(rw[if_neg (by decide+kernel)];exact⟨rfl,rfl⟩))
  (λos started H enc _ F=>lifted os started H enc F)
end Go.Proofs.YtfkjfjalecikkaaGreat
end
