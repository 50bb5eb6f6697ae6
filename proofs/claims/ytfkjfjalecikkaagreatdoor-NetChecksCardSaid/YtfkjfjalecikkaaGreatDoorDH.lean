/- The tied card of NetChecks is proved: whatever the input the law returns true, and its arguments read behind the call as they read before. Conditions: those of the card itself (the listed tables as the program's text lays them). Rings (the program's). Three colours find the rings. Which rules may take nothing: both answers are the same. Each state comes to its rule's end: both answers are the same. A search with a pile. Rings of free edges: both answers are the same. Rings of calls: both answers are the same. Words 1 to 3: both answers are the same. Words 2: both answers are the same. Words 1: both answers are the same. Words 1: both answers are the same. Words 3: both answers are the same. Edges: both answers are the same. Edges with acts. Edges: both answers are the same. Which nets may be: both answers are the same. Empty, Great. An abstract machine, part V: from a contract by abstract values, seeing no object, to a call from the world in which a statement begins. Nets that are handed in, as they stand in memory. Great. The law package's own small function wakes, run by the evaluator, strings.Join known, returns true. law.NetChecks. law.NetChecks, whatever the net's size. The world of the witness: the settled one, the three tables holding what the program's text lays. -/
import Derived.RowKit3
import Derived.ReadAgain
import Derived.OpenShut
import Derived.DataElems
import Derived.WalkKit
import Derived.ProofKit
import Derived.Deep.DeepHandedRow
import Derived.Lib.LaidTab
import Derived.Test.YtfkjfjalecikkaaGreatDoorRows
import Derived.Test.YtfkjfjalecikkaaGreatDoorCards
import Derived.Test.YtfkjfjalecikkaaGreatDoorTie
import Derived.Test.YtfkjfjalecikkaaGreatDoorDG
noncomputable section
open List (length map range replicate)
set_option maxRecDepth 100000
namespace Go.Proofs.YtfkjfjalecikkaaGreatDoor
open Go.Am
def skC (x:Nat×Nat):List AV:=[I ((x.1:Nat):Int),I ((x.2:Nat):Int)]
theorem JM (x:Nat×Nat):ae (skC x)=true:=rfl
@[simp] theorem pv_st (x:Nat×Nat):ae (skC x)=true:=rfl
@[simp] theorem pr_st (l:List (Nat×Nat)):ai (l.map skC)=true:=aX JM l
@[simp] theorem pr_skset (l:List (Nat×Nat)) (i:Nat) (x:Nat×Nat):ai ((l.map skC).set i (skC x))=true:=fw rfl _ (aX JM l)
@[simp] theorem aaU (l:List Int) (i:Nat) (x:Int):ai ((l.map aL).set i (aL x))=true:=fw rfl _ (aX E5 l)
abbrev Sk:=Nat×List Int×List (Nat×Nat)
def c0 (l:List Int):Nat:=l.count 0
structure SR (g:List (List Nat)) (w:Sk):Prop where
 len:w.2.1.length=g.length
 kl:w.1<=w.2.2.length
 node: ∀j,j<w.1->(ah w.2.2 j).1<g.length/\(ah w.2.2 j).2<=(ah g (ah w.2.2 j).1).length
 bd:w.1+c0 w.2.1<=g.length
structure SK (g:List (List Nat)) (k:Nat) (is:List Int) (l:List (Nat×Nat)):Prop where
 len:is.length=g.length
 kl:k<=l.length
 pos:0<k
 kb:k<=1000000
 node:(ah l (k-1)).1<g.length
 row:(ah g (ah l (k-1)).1).length<=2000000000000
 to:(ah l (k-1)).2<(ah g (ah l (k-1)).1).length->ah (ah g (ah l (k-1)).1) (ah l (k-1)).2<g.length
theorem SR.sk {g:List (List Nat)} (hg:fZ g) {w:Sk} (h:SR g w) (hk:0<w.1):SK g w.1 w.2.1 w.2.2 where
 len:=h.len
 kl:=h.kl
 pos:=hk
 kb:=by have:=h.bd;have:=hg.len;omega
 node:=(h.node _ (by omega)).1
 row:=hg.row _ (ay (h.node _ (by omega)).1)
 to:=fun hq=>hg.wf _ (ay (h.node _ (by omega)).1) _ (ay hq)
def lq (w:Sk) (q:Nat):List (Nat×Nat):=List.set w.2.2 (w.1-1) ((ah w.2.2 (w.1-1)).1,q)
theorem fC {w:Sk} (h:w.1<=w.2.2.length) (hk:0<w.1) (q:Nat):ah (lq w q) (w.1-1)=((ah w.2.2 (w.1-1)).1,q):=by
 unfold lq
 rw [ah,List.getElem?_set_self (by omega)];rfl
theorem Un {w:Sk} (h:w.1<=w.2.2.length) (hk:0<w.1) (q:Nat):List.set (lq w q) (w.1-1) ((ah (lq w q) (w.1-1)).1,(ah (lq w q) (w.1-1)).2+1)=lq w (q+1):=by
 rw [fC h hk]
 unfold lq
 rw [List.set_set]
theorem WA {w:Sk} (h:w.1<=w.2.2.length) (hk:0<w.1):lq w (ah w.2.2 (w.1-1)).2=w.2.2:=by
 unfold lq
 refine List.ext_getElem? fun j=> ?_
 by_cases hj:w.1-1=j
 ·subst hj;rw [List.getElem?_set_self (by omega),eZ (by omega)]
 ·rw [List.getElem?_set_ne hj]
theorem mK (w:Sk) (q:Nat):(lq w q).length=w.2.2.length:=List.length_set
def ib (g:List (List Nat)) (w:Sk):List Nat:=ah g (ah w.2.2 (w.1-1)).1
def jY (g:List (List Nat)) (w:Sk) (q:Nat):Nat:=ah (ib g w) q
def vU (g:List (List Nat)) (w:Sk) (q:Nat):Bool:= !(ah w.2.1 (jY g w q)==1)&& !(ah w.2.1 (jY g w q)==0)
def dU (g:List (List Nat)) (w:Sk):Nat:=(ah w.2.2 (w.1-1)).2+cc ((ib g w).length-(ah w.2.2 (w.1-1)).2) fun j=> !(vU g w ((ah w.2.2 (w.1-1)).2+j))
def Pj (g:List (List Nat)) (w:Sk):Bool:=decide (dU g w<(ib g w).length)
def kC (g:List (List Nat)) (w:Sk):Bool:=Pj g w&&(ah w.2.1 (jY g w (dU g w))==1)
def gy (g:List (List Nat)) (w:Sk):Sk:=bif Pj g w then (w.1+1,List.set w.2.1 (jY g w (dU g w)) 1,List.take w.1 (lq w (dU g w+1))++ [(jY g w (dU g w),0)]) else (w.1-1,List.set w.2.1 (ah w.2.2 (w.1-1)).1 2,lq w (dU g w))
theorem Fz {n:Nat} {t:Nat->Bool} (h:dh n t=false):cc n t=n:=by
 unfold cc
 have:(range n).find? t=none:=List.find?_eq_none.2 fun i hi=>by
  have:=bL.1 h i (List.mem_range.1 hi)
  simp [this]
 rw [this];rfl
theorem Nj (n:Nat) (t:Nat->Bool):cc n t<=n:=by
 cases h:dh n t with
 |true=>exact Nat.le_of_lt (ir h).1
 |false=>exact Nat.le_of_eq (Fz h)
theorem Nk {g:List (List Nat)} {w:Sk} {q:Nat} (h0:(ah w.2.2 (w.1-1)).2<=q) (hq:q<dU g w):vU g w q=true:=by
 unfold dU at hq
 generalize hm:(ib g w).length-(ah w.2.2 (w.1-1)).2=m at hq
 obtain ⟨j,rfl⟩: ∃j,q=(ah w.2.2 (w.1-1)).2+j:=⟨q-(ah w.2.2 (w.1-1)).2,by omega⟩
 by_cases ha:dh m (fun j=> !(vU g w ((ah w.2.2 (w.1-1)).2+j)))=true
 ·have:=(ir ha).2.2 j (by omega)
  simpa using this
 ·have ha:=bL.1 (by simpa using ha) j
  have hf:cc m (fun j=> !(vU g w ((ah w.2.2 (w.1-1)).2+j)))<=m:=Nj _ _
  have:=ha (by omega)
  simpa using this
theorem yN {g:List (List Nat)} {w:Sk} (h:(ah w.2.2 (w.1-1)).2<=(ib g w).length):dU g w<=(ib g w).length:=by
 unfold dU
 have:=Nj ((ib g w).length-(ah w.2.2 (w.1-1)).2) fun j=> !(vU g w ((ah w.2.2 (w.1-1)).2+j))
 omega
theorem ue {g:List (List Nat)} {w:Sk} (h:Pj g w=true):dU g w<(ib g w).length/\vU g w (dU g w)=false:=by
 have h:=of_decide_eq_true h
 refine ⟨h,?_⟩
 unfold dU at h⊢
 generalize hm:(ib g w).length-(ah w.2.2 (w.1-1)).2=m at h⊢
 have ha:dh m (fun j=> !(vU g w ((ah w.2.2 (w.1-1)).2+j)))=true:=by
  cases hc:dh m (fun j=> !(vU g w ((ah w.2.2 (w.1-1)).2+j))) with
  |true=>rfl
  |false=>
   have:=Fz hc
   rw [this] at h
   omega
 have:=(ir ha).2.1
 simpa using this
def C5:Code:=bV 0 (aH 30)
def FA:Code:=bV 2 C5
def lJ:Code:=MP 3 FA
def lK:Code:=bV 4 lJ
theorem JN:lJ= .seq (sq1 lJ) (.seq (.block 4 (.loop lK)) (sq2 (sq2 lJ))):=by kernel_rfl
theorem WB (g:List (List Nat)) (i0 k:Nat) (is:List Int) (l:List (Nat×Nat)) (hg:fZ g) (_:i0<length g) (hs:SK g k is l) (hb0:(decide (((k:Nat):Int)>0))=true):vcC pg 96 base aO 3000 (kbL []) (sq1 lJ) (bu [(0,.sl 1 (map bY g)),(3,.sr 0 1 0 (length (map bY g))),(5,.sr 1 2 0 k),(12,I (length (map bY g):Int)),(13,I (i0:Int))]) (bA [.row 3 1 (map aL is),.row 114 2 (map skC l)]) 2 (bQ [⟨True,.normal,[(0,.sl 1 (map bY g)),(3,.sr 0 1 0 (length (map bY g))),(5,.sr 1 2 0 k),(6,.pt 1 (0*2+(k-1)*2)),(12,I (length (map bY g):Int)),(13,I (i0:Int))],[0,1],[.row 3 1 (map aL is),.row 114 2 (map skC l)]⟩]) (.r [.int ((k-1:Nat):Int),bT] (.pick 0)):=
 have hgl0:=hg.len;have h1:=hs.len;have h2:=hs.kl;have h3:=hs.pos;have h4:=hs.kb;have h5:=hs.node;have h6:=hs.row;have h7:=hs.to;have lms:=aW aL is;have lrn:=aW bY g;have lst:=aW skC l;have lro:=aW di (ah g (ah l (k-1)).1);have gb0:=of_decide_eq_true hb0;aZ (an (ac (ixL (z:=k-1) (n:=k) (by omega)) (ac (dws (k:=k) (by omega) (by omega)) a0))
 (lf (wy [⟨True,.normal,[(0,.sl 1 (map bY g)),(3,.sr 0 1 0 (length (map bY g))),(5,.sr 1 2 0 k),(6,.pt 1 (0*2+(k-1)*2)),(12,I (length (map bY g):Int)),(13,I (i0:Int))],[0,1],[.row 3 1 (map aL is),.row 114 2 (map skC l)]⟩] 0) 2 trivial))
 (by kernel_rfl)
theorem p30_9 (g:List (List Nat)) (i0 k:Nat) (is:List Int) (l:List (Nat×Nat)) (hg:fZ g) (hx0:i0<length g) (hs:SK g k is l) (hb0:(decide (((k:Nat):Int)>0))=true):Piece pg 96 0 (sq1 lJ) [(0,.sl 1 (map bY g)),(3,.sr 0 1 0 (length (map bY g))),(5,.sr 1 2 0 k),(12,I (length (map bY g):Int)),(13,I (i0:Int))] [.row 3 1 (map aL is),.row 114 2 (map skC l)] .normal [(0,.sl 1 (map bY g)),(3,.sr 0 1 0 (length (map bY g))),(5,.sr 1 2 0 k),(6,.pt 1 (0*2+(k-1)*2)),(12,I (length (map bY g):Int)),(13,I (i0:Int))] [.row 3 1 (map aL is),.row 114 2 (map skC l)]:=
 cQ (aS aw mixed (az _)) (WB g i0 k is l hg hx0 hs hb0) (aQ rfl rfl rfl (by simp [plS,AV.pure]) (by simp [plO]))
theorem WC (g:List (List Nat)) (i0 k:Nat) (is:List Int) (l:List (Nat×Nat)) (hg:fZ g) (_:i0<length g) (hs:SK g k is l) (hb0:(decide (((((ah l (k-1))).2:Nat):Int)<(length (map di (ah g (((ah l (k-1))).1))):Int)))=true) (hb1:((ah is (ah (ah g (((ah l (k-1))).1)) (((ah l (k-1))).2)))==1)=false) (hb2:((ah is (ah (ah g (((ah l (k-1))).1)) (((ah l (k-1))).2)))==0)=false):vcC pg 96 base aO 3000 (kbL []) lK (bu [(0,.sl 1 (map bY g)),(3,.sr 0 1 0 (length (map bY g))),(5,.sr 1 2 0 k),(6,.pt 1 (0*2+(k-1)*2)),(12,I (length (map bY g):Int)),(13,I (i0:Int))]) (bA [.row 3 1 (map aL is),.row 114 2 (map skC l)]) 2 (bQ [⟨True,.normal,[(0,.sl 1 (map bY g)),(3,.sr 0 1 0 (length (map bY g))),(5,.sr 1 2 0 k),(6,.pt 1 (0*2+(k-1)*2)),(12,I (length (map bY g):Int)),(13,I (i0:Int))],[0,1],[.row 3 1 (map aL is),.row 114 2 (map skC (List.set l (k-1) (((ah l (k-1))).1,((ah l (k-1))).2+1)))]⟩]) (.r [.at (k-1) 1 (skC (ah l (k-1))),.at (k-1) 0 (skC (ah l (k-1))),.row (bY (ah g (((ah l (k-1))).1))),.k,bT] (.yes (.r [.at (k-1) 0 (skC (ah l (k-1))),.row (bY (ah g (((ah l (k-1))).1))),.at (k-1) 1 (skC (ah l (k-1))),.row (di (ah (ah g (((ah l (k-1))).1)) (((ah l (k-1))).2))),bT] (.r [.at (k-1) 1 (skC (ah l (k-1))),.int ((((ah l (k-1))).2+1:Nat):Int),.at (k-1) 1 (skC (ah l (k-1))),bT] (.r [.at (ah (ah g (((ah l (k-1))).1)) (((ah l (k-1))).2)) 0 (aL (ah is (ah (ah g (((ah l (k-1))).1)) (((ah l (k-1))).2)))),bT] (.r [.k,bT] (.no (.r [.k,bT] (.no (.pick 0)))))))))):=
 have hgl0:=hg.len;have h1:=hs.len;have h2:=hs.kl;have h3:=hs.pos;have h4:=hs.kb;have h5:=hs.node;have h6:=hs.row;have h7:=hs.to;have lms:=aW aL is;have lrn:=aW bY g;have lst:=aW skC l;have lro:=aW di (ah g (ah l (k-1)).1);have gb0:=of_decide_eq_true hb0;have lq0:=aW di ((ah g (((ah l (k-1))).1)));aZ (an (a1 (ac (bR bY (l:=g) (i:=((ah l (k-1))).1) (by omega)) (ac (atL (S:=2) (f:=0) (z:=k-1) (rfl:map skC l=map skC l) (by decide) (by omega)) (ac (atL (S:=2) (f:=1) (z:=k-1) (rfl:map skC l=map skC l) (by decide) (by omega)) a0))))
 (an hb0 (an (ac (bR di (l:=(ah g (((ah l (k-1))).1))) (i:=((ah l (k-1))).2) (by omega)) (ac (atL (S:=2) (f:=1) (z:=k-1) (rfl:map skC l=map skC l) (by decide) (by omega)) (ac (bR bY (l:=g) (i:=((ah l (k-1))).1) (by omega)) (ac (atL (S:=2) (f:=0) (z:=k-1) (rfl:map skC l=map skC l) (by decide) (by omega)) a0))))
 (an (ac (stL (S:=2) (f:=1) (k:=1) (z:=k-1) (rfl:map skC l=map skC l) (by decide) (by omega) rfl) (ac (dwr (z:=((((ah l (k-1))).2+1:Nat):Int)) (by omega) (by omega)) (ac (atL (S:=2) (f:=1) (z:=k-1) (rfl:map skC l=map skC l) (by decide) (by omega)) a0)))
 (an (ac (atL (S:=1) (f:=0) (z:=(ah (ah g (((ah l (k-1))).1)) (((ah l (k-1))).2))) (rfl:map aL is=map aL is) (by decide) (by omega)) (ac (ixL (z:=(ah (ah g (((ah l (k-1))).1)) (((ah l (k-1))).2))) (n:=length (map bY g)) (by omega)) a0))
 (an (a1 a0)
 (an hb1 (an (a1 a0)
 (an hb2 (lfE (wy [⟨True,.normal,[(0,.sl 1 (map bY g)),(3,.sr 0 1 0 (length (map bY g))),(5,.sr 1 2 0 k),(6,.pt 1 (0*2+(k-1)*2)),(12,I (length (map bY g):Int)),(13,I (i0:Int))],[0,1],[.row 3 1 (map aL is),.row 114 2 (map skC (List.set l (k-1) (((ah l (k-1))).1,((ah l (k-1))).2+1)))]⟩] 0) 2 trivial (bp (rfl:(.row 3 1 (map aL is):Ob)= .row 3 1 (map aL is)) (bp (congrArg (fun z=>Ob.row 114 2 z) (lz (f:=skC) (rfl:map skC l=map skC l) (k-1) (((ah l (k-1))).1,((ah l (k-1))).2+1))) eR))))))))))))
 (by kernel_rfl)
theorem p30_g (g:List (List Nat)) (i0 k:Nat) (is:List Int) (l:List (Nat×Nat)) (hg:fZ g) (hx0:i0<length g) (hs:SK g k is l) (hb0:(decide (((((ah l (k-1))).2:Nat):Int)<(length (map di (ah g (((ah l (k-1))).1))):Int)))=true) (hb1:((ah is (ah (ah g (((ah l (k-1))).1)) (((ah l (k-1))).2)))==1)=false) (hb2:((ah is (ah (ah g (((ah l (k-1))).1)) (((ah l (k-1))).2)))==0)=false):Piece pg 96 0 lK [(0,.sl 1 (map bY g)),(3,.sr 0 1 0 (length (map bY g))),(5,.sr 1 2 0 k),(6,.pt 1 (0*2+(k-1)*2)),(12,I (length (map bY g):Int)),(13,I (i0:Int))] [.row 3 1 (map aL is),.row 114 2 (map skC l)] .normal [(0,.sl 1 (map bY g)),(3,.sr 0 1 0 (length (map bY g))),(5,.sr 1 2 0 k),(6,.pt 1 (0*2+(k-1)*2)),(12,I (length (map bY g):Int)),(13,I (i0:Int))] [.row 3 1 (map aL is),.row 114 2 (map skC (List.set l (k-1) (((ah l (k-1))).1,((ah l (k-1))).2+1)))]:=
 cQ (aS aw mixed (az _)) (WC g i0 k is l hg hx0 hs hb0 hb1 hb2) (aQ rfl rfl rfl (by simp [plS,AV.pure]) (by simp [plO]))
theorem WD (g:List (List Nat)) (i0 k:Nat) (is:List Int) (l:List (Nat×Nat)) (hg:fZ g) (_:i0<length g) (hs:SK g k is l) (hb0:(decide (((((ah l (k-1))).2:Nat):Int)<(length (map di (ah g (((ah l (k-1))).1))):Int)))=false):vcC pg 96 base aO 3000 (kbL []) lK (bu [(0,.sl 1 (map bY g)),(3,.sr 0 1 0 (length (map bY g))),(5,.sr 1 2 0 k),(6,.pt 1 (0*2+(k-1)*2)),(12,I (length (map bY g):Int)),(13,I (i0:Int))]) (bA [.row 3 1 (map aL is),.row 114 2 (map skC l)]) 2 (bQ [⟨True,(.exit 4),[(0,.sl 1 (map bY g)),(3,.sr 0 1 0 (length (map bY g))),(5,.sr 1 2 0 k),(6,.pt 1 (0*2+(k-1)*2)),(12,I (length (map bY g):Int)),(13,I (i0:Int))],[0,1],[.row 3 1 (map aL is),.row 114 2 (map skC l)]⟩]) (.r [.at (k-1) 1 (skC (ah l (k-1))),.at (k-1) 0 (skC (ah l (k-1))),.row (bY (ah g (((ah l (k-1))).1))),.k,bT] (.no (.pick 0))):=
 have hgl0:=hg.len;have h1:=hs.len;have h2:=hs.kl;have h3:=hs.pos;have h4:=hs.kb;have h5:=hs.node;have h6:=hs.row;have h7:=hs.to;have lms:=aW aL is;have lrn:=aW bY g;have lst:=aW skC l;have lro:=aW di (ah g (ah l (k-1)).1);have gb0:=of_decide_eq_false hb0;have lq0:=aW di ((ah g (((ah l (k-1))).1)));aZ (an (a1 (ac (bR bY (l:=g) (i:=((ah l (k-1))).1) (by omega)) (ac (atL (S:=2) (f:=0) (z:=k-1) (rfl:map skC l=map skC l) (by decide) (by omega)) (ac (atL (S:=2) (f:=1) (z:=k-1) (rfl:map skC l=map skC l) (by decide) (by omega)) a0))))
 (an hb0 (lf (wy [⟨True,(.exit 4),[(0,.sl 1 (map bY g)),(3,.sr 0 1 0 (length (map bY g))),(5,.sr 1 2 0 k),(6,.pt 1 (0*2+(k-1)*2)),(12,I (length (map bY g):Int)),(13,I (i0:Int))],[0,1],[.row 3 1 (map aL is),.row 114 2 (map skC l)]⟩] 0) 2 trivial)))
 (by kernel_rfl)
theorem p30_d (g:List (List Nat)) (i0 k:Nat) (is:List Int) (l:List (Nat×Nat)) (hg:fZ g) (hx0:i0<length g) (hs:SK g k is l) (hb0:(decide (((((ah l (k-1))).2:Nat):Int)<(length (map di (ah g (((ah l (k-1))).1))):Int)))=false):Piece pg 96 0 lK [(0,.sl 1 (map bY g)),(3,.sr 0 1 0 (length (map bY g))),(5,.sr 1 2 0 k),(6,.pt 1 (0*2+(k-1)*2)),(12,I (length (map bY g):Int)),(13,I (i0:Int))] [.row 3 1 (map aL is),.row 114 2 (map skC l)] (.exit 4) [(0,.sl 1 (map bY g)),(3,.sr 0 1 0 (length (map bY g))),(5,.sr 1 2 0 k),(6,.pt 1 (0*2+(k-1)*2)),(12,I (length (map bY g):Int)),(13,I (i0:Int))] [.row 3 1 (map aL is),.row 114 2 (map skC l)]:=
 cQ (aS aw mixed (az _)) (WD g i0 k is l hg hx0 hs hb0) (aQ rfl rfl rfl (by simp [plS,AV.pure]) (by simp [plO]))
theorem WE (g:List (List Nat)) (i0 k:Nat) (is:List Int) (l:List (Nat×Nat)) (hg:fZ g) (_:i0<length g) (hs:SK g k is l) (hb0:(decide (((((ah l (k-1))).2:Nat):Int)<(length (map di (ah g (((ah l (k-1))).1))):Int)))=true) (hb1:((ah is (ah (ah g (((ah l (k-1))).1)) (((ah l (k-1))).2)))==1)=true):vcC pg 96 base aO 3000 (kbL []) lK (bu [(0,.sl 1 (map bY g)),(3,.sr 0 1 0 (length (map bY g))),(5,.sr 1 2 0 k),(6,.pt 1 (0*2+(k-1)*2)),(12,I (length (map bY g):Int)),(13,I (i0:Int))]) (bA [.row 3 1 (map aL is),.row 114 2 (map skC l)]) 2 (bQ [⟨True,.ret,[(2,B true)],[],[]⟩]) (.r [.at (k-1) 1 (skC (ah l (k-1))),.at (k-1) 0 (skC (ah l (k-1))),.row (bY (ah g (((ah l (k-1))).1))),.k,bT] (.yes (.r [.at (k-1) 0 (skC (ah l (k-1))),.row (bY (ah g (((ah l (k-1))).1))),.at (k-1) 1 (skC (ah l (k-1))),.row (di (ah (ah g (((ah l (k-1))).1)) (((ah l (k-1))).2))),bT] (.r [.at (k-1) 1 (skC (ah l (k-1))),.int ((((ah l (k-1))).2+1:Nat):Int),.at (k-1) 1 (skC (ah l (k-1))),bT] (.r [.at (ah (ah g (((ah l (k-1))).1)) (((ah l (k-1))).2)) 0 (aL (ah is (ah (ah g (((ah l (k-1))).1)) (((ah l (k-1))).2)))),bT] (.r [.k,bT] (.yes (.r [bT] (.pick 0))))))))):=
 have hgl0:=hg.len;have h1:=hs.len;have h2:=hs.kl;have h3:=hs.pos;have h4:=hs.kb;have h5:=hs.node;have h6:=hs.row;have h7:=hs.to;have lms:=aW aL is;have lrn:=aW bY g;have lst:=aW skC l;have lro:=aW di (ah g (ah l (k-1)).1);have gb0:=of_decide_eq_true hb0;have lq0:=aW di ((ah g (((ah l (k-1))).1)));aZ (an (a1 (ac (bR bY (l:=g) (i:=((ah l (k-1))).1) (by omega)) (ac (atL (S:=2) (f:=0) (z:=k-1) (rfl:map skC l=map skC l) (by decide) (by omega)) (ac (atL (S:=2) (f:=1) (z:=k-1) (rfl:map skC l=map skC l) (by decide) (by omega)) a0))))
 (an hb0 (an (ac (bR di (l:=(ah g (((ah l (k-1))).1))) (i:=((ah l (k-1))).2) (by omega)) (ac (atL (S:=2) (f:=1) (z:=k-1) (rfl:map skC l=map skC l) (by decide) (by omega)) (ac (bR bY (l:=g) (i:=((ah l (k-1))).1) (by omega)) (ac (atL (S:=2) (f:=0) (z:=k-1) (rfl:map skC l=map skC l) (by decide) (by omega)) a0))))
 (an (ac (stL (S:=2) (f:=1) (k:=1) (z:=k-1) (rfl:map skC l=map skC l) (by decide) (by omega) rfl) (ac (dwr (z:=((((ah l (k-1))).2+1:Nat):Int)) (by omega) (by omega)) (ac (atL (S:=2) (f:=1) (z:=k-1) (rfl:map skC l=map skC l) (by decide) (by omega)) a0)))
 (an (ac (atL (S:=1) (f:=0) (z:=(ah (ah g (((ah l (k-1))).1)) (((ah l (k-1))).2))) (rfl:map aL is=map aL is) (by decide) (by omega)) (ac (ixL (z:=(ah (ah g (((ah l (k-1))).1)) (((ah l (k-1))).2))) (n:=length (map bY g)) (by omega)) a0))
 (an (a1 a0)
 (an hb1 (an a0
 (lf (wy [⟨True,.ret,[(2,B true)],[],[]⟩] 0) 2 trivial)))))))))
 (by kernel_rfl)
theorem p30_r (g:List (List Nat)) (i0 k:Nat) (is:List Int) (l:List (Nat×Nat)) (hg:fZ g) (hx0:i0<length g) (hs:SK g k is l) (hb0:(decide (((((ah l (k-1))).2:Nat):Int)<(length (map di (ah g (((ah l (k-1))).1))):Int)))=true) (hb1:((ah is (ah (ah g (((ah l (k-1))).1)) (((ah l (k-1))).2)))==1)=true):Piece pg 96 0 lK [(0,.sl 1 (map bY g)),(3,.sr 0 1 0 (length (map bY g))),(5,.sr 1 2 0 k),(6,.pt 1 (0*2+(k-1)*2)),(12,I (length (map bY g):Int)),(13,I (i0:Int))] [.row 3 1 (map aL is),.row 114 2 (map skC l)] .ret [(2,B true)] []:=
 cQ (aS aw mixed (az _)) (WE g i0 k is l hg hx0 hs hb0 hb1) (aQ rfl rfl rfl (by simp [plS,AV.pure]) rfl)
theorem WG (g:List (List Nat)) (i0 k:Nat) (is:List Int) (l:List (Nat×Nat)) (hg:fZ g) (_:i0<length g) (hs:SK g k is l) (hb0:(decide (((((ah l (k-1))).2:Nat):Int)<(length (map di (ah g (((ah l (k-1))).1))):Int)))=true) (hb1:((ah is (ah (ah g (((ah l (k-1))).1)) (((ah l (k-1))).2)))==1)=false) (hb2:((ah is (ah (ah g (((ah l (k-1))).1)) (((ah l (k-1))).2)))==0)=true):vcC pg 96 base aO 3000 (kbL []) lK (bu [(0,.sl 1 (map bY g)),(3,.sr 0 1 0 (length (map bY g))),(5,.sr 1 2 0 k),(6,.pt 1 (0*2+(k-1)*2)),(12,I (length (map bY g):Int)),(13,I (i0:Int))]) (bA [.row 3 1 (map aL is),.row 114 2 (map skC l)]) 2 (bQ [⟨True,(.exit 3),[(0,.sl 1 (map bY g)),(3,.sr 0 1 0 (length (map bY g))),(5,.sr 1 2 0 (k+1)),(12,I (length (map bY g):Int)),(13,I (i0:Int))],[0,2],[.row 3 1 (map aL (List.set is (ah (ah g (((ah l (k-1))).1)) (((ah l (k-1))).2)) 1)),.row 114 2 (map skC (List.take k (List.set l (k-1) (((ah l (k-1))).1,((ah l (k-1))).2+1))++ [((ah (ah g (((ah l (k-1))).1)) (((ah l (k-1))).2)),0)]))]⟩]) (.r [.at (k-1) 1 (skC (ah l (k-1))),.at (k-1) 0 (skC (ah l (k-1))),.row (bY (ah g (((ah l (k-1))).1))),.k,bT] (.yes (.r [.at (k-1) 0 (skC (ah l (k-1))),.row (bY (ah g (((ah l (k-1))).1))),.at (k-1) 1 (skC (ah l (k-1))),.row (di (ah (ah g (((ah l (k-1))).1)) (((ah l (k-1))).2))),bT] (.r [.at (k-1) 1 (skC (ah l (k-1))),.int ((((ah l (k-1))).2+1:Nat):Int),.at (k-1) 1 (skC (ah l (k-1))),bT] (.r [.at (ah (ah g (((ah l (k-1))).1)) (((ah l (k-1))).2)) 0 (aL (ah is (ah (ah g (((ah l (k-1))).1)) (((ah l (k-1))).2)))),bT] (.r [.k,bT] (.no (.r [.k,bT] (.yes (.r [.at (ah (ah g (((ah l (k-1))).1)) (((ah l (k-1))).2)) 0 (aL (ah is (ah (ah g (((ah l (k-1))).1)) (((ah l (k-1))).2)))),bT] (.r [bT] (.pick 0)))))))))))):=
 have hgl0:=hg.len;have h1:=hs.len;have h2:=hs.kl;have h3:=hs.pos;have h4:=hs.kb;have h5:=hs.node;have h6:=hs.row;have h7:=hs.to;have lms:=aW aL is;have lrn:=aW bY g;have lst:=aW skC l;have lro:=aW di (ah g (ah l (k-1)).1);have gb0:=of_decide_eq_true hb0;have lq0:=aW di ((ah g (((ah l (k-1))).1)));aZ (an (a1 (ac (bR bY (l:=g) (i:=((ah l (k-1))).1) (by omega)) (ac (atL (S:=2) (f:=0) (z:=k-1) (rfl:map skC l=map skC l) (by decide) (by omega)) (ac (atL (S:=2) (f:=1) (z:=k-1) (rfl:map skC l=map skC l) (by decide) (by omega)) a0))))
 (an hb0 (an (ac (bR di (l:=(ah g (((ah l (k-1))).1))) (i:=((ah l (k-1))).2) (by omega)) (ac (atL (S:=2) (f:=1) (z:=k-1) (rfl:map skC l=map skC l) (by decide) (by omega)) (ac (bR bY (l:=g) (i:=((ah l (k-1))).1) (by omega)) (ac (atL (S:=2) (f:=0) (z:=k-1) (rfl:map skC l=map skC l) (by decide) (by omega)) a0))))
 (an (ac (stL (S:=2) (f:=1) (k:=1) (z:=k-1) (rfl:map skC l=map skC l) (by decide) (by omega) rfl) (ac (dwr (z:=((((ah l (k-1))).2+1:Nat):Int)) (by omega) (by omega)) (ac (atL (S:=2) (f:=1) (z:=k-1) (rfl:map skC l=map skC l) (by decide) (by omega)) a0)))
 (an (ac (atL (S:=1) (f:=0) (z:=(ah (ah g (((ah l (k-1))).1)) (((ah l (k-1))).2))) (rfl:map aL is=map aL is) (by decide) (by omega)) (ac (ixL (z:=(ah (ah g (((ah l (k-1))).1)) (((ah l (k-1))).2))) (n:=length (map bY g)) (by omega)) a0))
 (an (a1 a0)
 (an hb1 (an (a1 a0)
 (an hb2 (an (ac (stL (S:=1) (f:=0) (k:=1) (z:=(ah (ah g (((ah l (k-1))).1)) (((ah l (k-1))).2))) (rfl:map aL is=map aL is) (by decide) (by omega) rfl) (ac (ixL (z:=(ah (ah g (((ah l (k-1))).1)) (((ah l (k-1))).2))) (n:=length (map bY g)) (by omega)) a0))
 (an (ac (apL (k:=k) (B:=16) (lz (f:=skC) (rfl:map skC l=map skC l) (k-1) (((ah l (k-1))).1,((ah l (k-1))).2+1)) (by first|omega|(simp only [List.length_set];omega)) (by omega) (by omega)) a0)
 (lfE (wy [⟨True,(.exit 3),[(0,.sl 1 (map bY g)),(3,.sr 0 1 0 (length (map bY g))),(5,.sr 1 2 0 (k+1)),(12,I (length (map bY g):Int)),(13,I (i0:Int))],[0,2],[.row 3 1 (map aL (List.set is (ah (ah g (((ah l (k-1))).1)) (((ah l (k-1))).2)) 1)),.row 114 2 (map skC (List.take k (List.set l (k-1) (((ah l (k-1))).1,((ah l (k-1))).2+1))++ [((ah (ah g (((ah l (k-1))).1)) (((ah l (k-1))).2)),0)]))]⟩] 0) 3 trivial (bp (congrArg (fun z=>Ob.row 3 1 z) (lz (f:=aL) (rfl:map aL is=map aL is) (ah (ah g (((ah l (k-1))).1)) (((ah l (k-1))).2)) 1)) (bp (congrArg (fun z=>Ob.row 114 2 z) (apT (f:=skC) (lz (f:=skC) (rfl:map skC l=map skC l) (k-1) (((ah l (k-1))).1,((ah l (k-1))).2+1)) k ((ah (ah g (((ah l (k-1))).1)) (((ah l (k-1))).2)),0))) eR))))))))))))))
 (by kernel_rfl)
theorem p30_c (g:List (List Nat)) (i0 k:Nat) (is:List Int) (l:List (Nat×Nat)) (hg:fZ g) (hx0:i0<length g) (hs:SK g k is l) (hb0:(decide (((((ah l (k-1))).2:Nat):Int)<(length (map di (ah g (((ah l (k-1))).1))):Int)))=true) (hb1:((ah is (ah (ah g (((ah l (k-1))).1)) (((ah l (k-1))).2)))==1)=false) (hb2:((ah is (ah (ah g (((ah l (k-1))).1)) (((ah l (k-1))).2)))==0)=true):Piece pg 96 0 lK [(0,.sl 1 (map bY g)),(3,.sr 0 1 0 (length (map bY g))),(5,.sr 1 2 0 k),(6,.pt 1 (0*2+(k-1)*2)),(12,I (length (map bY g):Int)),(13,I (i0:Int))] [.row 3 1 (map aL is),.row 114 2 (map skC l)] (.exit 3) [(0,.sl 1 (map bY g)),(3,.sr 0 1 0 (length (map bY g))),(5,.sr 1 2 0 (k+1)),(12,I (length (map bY g):Int)),(13,I (i0:Int))] [.row 3 1 (map aL (List.set is (ah (ah g (((ah l (k-1))).1)) (((ah l (k-1))).2)) 1)),.row 114 2 (map skC (List.take k (List.set l (k-1) (((ah l (k-1))).1,((ah l (k-1))).2+1))++ [((ah (ah g (((ah l (k-1))).1)) (((ah l (k-1))).2)),0)]))]:=
 cQ (aS aw mixed (az _)) (WG g i0 k is l hg hx0 hs hb0 hb1 hb2) (aQ rfl rfl rfl (by simp [plS,AV.pure]) (by simp [plO,ai]))
theorem WH (g:List (List Nat)) (i0 k:Nat) (is:List Int) (l:List (Nat×Nat)) (hg:fZ g) (_:i0<length g) (hs:SK g k is l) (hb0:(decide (((k:Nat):Int)>0))=true):vcC pg 96 base aO 3000 (kbL []) (sq2 (sq2 lJ)) (bu [(0,.sl 1 (map bY g)),(3,.sr 0 1 0 (length (map bY g))),(5,.sr 1 2 0 k),(6,.pt 1 (0*2+(k-1)*2)),(12,I (length (map bY g):Int)),(13,I (i0:Int))]) (bA [.row 3 1 (map aL is),.row 114 2 (map skC l)]) 2 (bQ [⟨True,.normal,[(0,.sl 1 (map bY g)),(3,.sr 0 1 0 (length (map bY g))),(5,.sr 1 2 0 (k-1)),(12,I (length (map bY g):Int)),(13,I (i0:Int))],[0,1],[.row 3 1 (map aL (List.set is (((ah l (k-1))).1) 2)),.row 114 2 (map skC l)]⟩]) (.r [.at (k-1) 0 (skC (ah l (k-1))),.at (((ah l (k-1))).1) 0 (aL (ah is (((ah l (k-1))).1))),bT] (.r [.int ((k-1:Nat):Int),bT] (.pick 0))):=
 have hgl0:=hg.len;have h1:=hs.len;have h2:=hs.kl;have h3:=hs.pos;have h4:=hs.kb;have h5:=hs.node;have h6:=hs.row;have h7:=hs.to;have lms:=aW aL is;have lrn:=aW bY g;have lst:=aW skC l;have lro:=aW di (ah g (ah l (k-1)).1);have gb0:=of_decide_eq_true hb0;aZ (an (ac (stL (S:=1) (f:=0) (k:=1) (z:=((ah l (k-1))).1) (rfl:map aL is=map aL is) (by decide) (by omega) rfl) (ac (ixL (z:=((ah l (k-1))).1) (n:=length (map bY g)) (by omega)) (ac (atL (S:=2) (f:=0) (z:=k-1) (rfl:map skC l=map skC l) (by decide) (by omega)) a0)))
 (an (ac (slA (p:=0) (q:=k-1) (l:=k) (by omega) (by omega)) (ac (dws (k:=k) (by omega) (by omega)) a0))
 (lfE (wy [⟨True,.normal,[(0,.sl 1 (map bY g)),(3,.sr 0 1 0 (length (map bY g))),(5,.sr 1 2 0 (k-1)),(12,I (length (map bY g):Int)),(13,I (i0:Int))],[0,1],[.row 3 1 (map aL (List.set is (((ah l (k-1))).1) 2)),.row 114 2 (map skC l)]⟩] 0) 2 trivial (bp (congrArg (fun z=>Ob.row 3 1 z) (lz (f:=aL) (rfl:map aL is=map aL is) (((ah l (k-1))).1) 2)) (bp (rfl:(.row 114 2 (map skC l):Ob)= .row 114 2 (map skC l)) eR)))))
 (by kernel_rfl)
theorem p30_e (g:List (List Nat)) (i0 k:Nat) (is:List Int) (l:List (Nat×Nat)) (hg:fZ g) (hx0:i0<length g) (hs:SK g k is l) (hb0:(decide (((k:Nat):Int)>0))=true):Piece pg 96 0 (sq2 (sq2 lJ)) [(0,.sl 1 (map bY g)),(3,.sr 0 1 0 (length (map bY g))),(5,.sr 1 2 0 k),(6,.pt 1 (0*2+(k-1)*2)),(12,I (length (map bY g):Int)),(13,I (i0:Int))] [.row 3 1 (map aL is),.row 114 2 (map skC l)] .normal [(0,.sl 1 (map bY g)),(3,.sr 0 1 0 (length (map bY g))),(5,.sr 1 2 0 (k-1)),(12,I (length (map bY g):Int)),(13,I (i0:Int))] [.row 3 1 (map aL (List.set is (((ah l (k-1))).1) 2)),.row 114 2 (map skC l)]:=
 cQ (aS aw mixed (az _)) (WH g i0 k is l hg hx0 hs hb0) (aQ rfl rfl rfl (by simp [plS,AV.pure]) (by simp [plO]))
abbrev zAW (g:List (List Nat)):=(map bY g)
def Pk (g:List (List Nat)) (i0 k:Nat):Am.Loc:=[(0,.sl 1 (zAW g)),(3,.sr 0 1 0 (length (zAW g))),(5,.sr 1 2 0 k),(6,.pt 1 (0*2+(k-1)*2)),(12,I (length (zAW g):Int)),(13,I (i0:Int))]
def LC30 (g:List (List Nat)) (i0 k2:Nat):Am.Loc:=[(0,.sl 1 (zAW g)),(3,.sr 0 1 0 (length (zAW g))),(5,.sr 1 2 0 k2),(12,I (length (zAW g):Int)),(13,I (i0:Int))]
theorem HC {P:Program} {n K:Nat} {id:Nat} {c:Code} {L L' :Am.Loc} {ob ob' :List Ob} (h:Piece P n K c L ob .ret L' ob'):Piece P n K (.block id c) L ob .ret L' ob' :=fun df _ hd hq=>dR (h df _ (hd.imp (fun e=>e) fun e=>by simpa only [Code.inR] using e) hq)
theorem SR.skq {g:List (List Nat)} (hg:fZ g) {w:Sk} (h:SR g w) (hk:0<w.1) (q:Nat):SK g w.1 w.2.1 (lq w q):=by
 have hs:=h.sk hg hk
 refine ⟨h.len,by rw [mK];exact h.kl,hk,hs.kb,?_,?_,?_⟩
 ·rw [fC h.kl hk];exact hs.node
 ·rw [fC h.kl hk];exact hs.row
 ·rw [fC h.kl hk]
  exact fun hq=>hg.wf _ (ay hs.node) _ (ay hq)
section
variable {g:List (List Nat)} {i0:Nat} (hg:fZ g) (hx0:i0<length g) {w:Sk} (h:SR g w) (hk:0<w.1)
 include hg hx0 h hk
theorem aaq {q:Nat} (h0:(ah w.2.2 (w.1-1)).2<=q) (hq:q<dU g w):Piece pg 96 0 lK (Pk g i0 w.1) [.row 3 1 (map aL w.2.1),.row 114 2 (map skC (lq w q))] .normal (Pk g i0 w.1) [.row 3 1 (map aL w.2.1),.row 114 2 (map skC (lq w (q+1)))]:=by
 have hgo:=Nk h0 hq
 have hql:=yN (h.node _ (show w.1-1<w.1 by omega)).2
 unfold vU jY ib at hgo
 unfold ib at hql
 simp only [Bool.and_eq_true,Bool.not_eq_true'] at hgo
 have hp:=p30_g g i0 w.1 w.2.1 (lq w q) hg hx0 (h.skq hg hk q) (by rw [fC h.kl hk];exact decide_eq_true (show ((q:Nat):Int)<(length (map di (ah g (ah w.2.2 (w.1-1)).1)):Int) by rw [List.length_map];omega)) (by rw [fC h.kl hk];exact hgo.1) (by rw [fC h.kl hk];exact hgo.2)
 rw [Un h.kl hk] at hp
 exact hp
theorem LX {xr:AX} {Lr:Am.Loc} {obr:List Ob} (hne:xr≠ .normal) (hf:Piece pg 96 0 lK (Pk g i0 w.1) [.row 3 1 (map aL w.2.1),.row 114 2 (map skC (lq w (dU g w)))] xr Lr obr):Piece pg 96 0 (.block 4 (.loop lK)) (Pk g i0 w.1) [.row 3 1 (map aL w.2.1),.row 114 2 (map skC w.2.2)] (qH 4 xr) Lr obr:=by
 have:=gJ (P:=Tryz.prog) (n:=96) (K:=0) (id:=4) (c:=lK) (xr:=xr) (Lr:=Lr) (obr:=obr) (fun _=>Pk g i0 w.1) (fun q=>[.row 3 1 (map aL w.2.1),.row 114 2 (map skC (lq w q))]) (fun q=>(ah w.2.2 (w.1-1)).2<=q/\q<=dU g w) (fun q=>dU g w-q) (ah w.2.2 (w.1-1)).2 ⟨Nat.le_refl _,by unfold dU;omega⟩ hne fun q hq=>by
  by_cases hql:q<dU g w
  ·exact .inl ⟨q+1,⟨by omega,by omega⟩,by omega,aaq hg hx0 h hk hq.1 hql⟩
  ·obtain rfl:q=dU g w:=by omega
   exact .inr hf
 simp only [WA h.kl hk] at this
 exact this
theorem Uo:Piece pg 96 0 (sq1 lJ) (LC30 g i0 w.1) [.row 3 1 (map aL w.2.1),.row 114 2 (map skC w.2.2)] .normal (Pk g i0 w.1) [.row 3 1 (map aL w.2.1),.row 114 2 (map skC w.2.2)]:=p30_9 g i0 w.1 w.2.1 w.2.2 hg hx0 (h.sk hg hk) (decide_eq_true (by omega))
theorem WI (hh:kC g w=true):Piece pg 96 0 (.block 3 lJ) (LC30 g i0 w.1) [.row 3 1 (map aL w.2.1),.row 114 2 (map skC w.2.2)] .ret [(2,B true)] []:=by
 unfold kC at hh
 simp only [Bool.and_eq_true] at hh
 have h1:=(ue hh.1).1
 have h2:=hh.2
 unfold ib at h1
 unfold jY ib at h2
 have hp:=LX hg hx0 h hk (by simp) (p30_r g i0 w.1 w.2.1 (lq w (dU g w)) hg hx0 (h.skq hg hk _) (by rw [fC h.kl hk];exact decide_eq_true (show ((dU g w:Nat):Int)<(length (map di (ah g (ah w.2.2 (w.1-1)).1)):Int) by rw [List.length_map];omega)) (by rw [fC h.kl hk];exact h2))
 rw [JN]
 exact HC (dS (Uo hg hx0 h hk) (mh hp (by simp [])))
theorem WJ (hh:kC g w=false):Piece pg 96 0 (.block 3 lJ) (LC30 g i0 w.1) [.row 3 1 (map aL w.2.1),.row 114 2 (map skC w.2.2)] .normal (LC30 g i0 (gy g w).1) [.row 3 1 (map aL (gy g w).2.1),.row 114 2 (map skC (gy g w).2.2)]:=by
 have hql:=yN (h.node _ (show w.1-1<w.1 by omega)).2
 rw [JN]
 cases ha:Pj g w with
 |true=>
  obtain ⟨h1,h2⟩:=ue ha
  unfold kC at hh
  rw [ha,Bool.true_and] at hh
  unfold vU at h2
  rw [hh,Bool.not_false,Bool.true_and,Bool.not_eq_false'] at h2
  unfold gy
  rw [ha,cond_true]
  unfold jY ib at hh h2
  unfold ib at h1
  have hp:=LX hg hx0 h hk (by simp) (p30_c g i0 w.1 w.2.1 (lq w (dU g w)) hg hx0 (h.skq hg hk _) (by rw [fC h.kl hk];exact decide_eq_true (show ((dU g w:Nat):Int)<(length (map di (ah g (ah w.2.2 (w.1-1)).1)):Int) by rw [List.length_map];omega)) (by rw [fC h.kl hk];exact hh) (by rw [fC h.kl hk];exact h2))
  rw [Un h.kl hk,fC h.kl hk] at hp
  exact Gh (dS (Uo hg hx0 h hk) (mh hp (by simp [])))
 |false=>
  unfold gy
  rw [ha,cond_false]
  have ha:=of_decide_eq_false ha
  unfold ib at ha
  have hp:=LX hg hx0 h hk (by simp) (p30_d g i0 w.1 w.2.1 (lq w (dU g w)) hg hx0 (h.skq hg hk _) (by rw [fC h.kl hk];exact decide_eq_false (show¬((dU g w:Nat):Int)<(length (map di (ah g (ah w.2.2 (w.1-1)).1)):Int) by rw [List.length_map];omega)))
  have he:=p30_e g i0 w.1 w.2.1 (lq w (dU g w)) hg hx0 (h.skq hg hk _) (decide_eq_true (by omega))
  rw [fC h.kl hk] at he
  exact nG (dS (Uo hg hx0 h hk) (dS hp he))
end
def C6 (g:List (List Nat)) (i0:Nat) (_:List Int) (w2:Nat×(List Int)×(List (Nat×Nat))):KB:=⟨[(0,.sl 1 (map bY g)),(3,.sr 0 1 0 (length (map bY g))),(5,.sr 1 2 0 w2.1),(12,I (length (map bY g):Int)),(13,I (i0:Int))],[.row 3 1 (map aL w2.2.1),.row 114 2 (map skC w2.2.2)],kC g w2,.ret,[(2,B true)],[],.normal,[(0,.sl 1 (map bY g)),(3,.sr 0 1 0 (length (map bY g))),(5,.sr 1 2 0 ((gy g w2).1)),(12,I (length (map bY g):Int)),(13,I (i0:Int))],[.row 3 1 (map aL ((gy g w2).2.1)),.row 114 2 (map skC ((gy g w2).2.2))],(decide (((w2.1:Nat):Int)>0))=true⟩
theorem Up (g:List (List Nat)) (i0:Nat) (y0:List Int) (w2:Nat×(List Int)×(List (Nat×Nat))) (hg:fZ g) (hx0:i0<(length g)) (_:length y0=length g) (hw2:SR g w2):dg pg 96 0 3 lJ (C6 g i0 y0 w2):=⟨fun hp e=>WI hg hx0 hw2 (by have:=of_decide_eq_true hp;omega) e,fun hp e=>WJ hg hx0 hw2 (by have:=of_decide_eq_true hp;omega) e⟩
def vV (g:List (List Nat)) (i0:Nat) (_:List Int) (w2:Nat×(List Int)×(List (Nat×Nat))):Nat×(List Int)×(List (Nat×Nat)):=((gy g w2).1,(gy g w2).2.1,(gy g w2).2.2)
def cX (g:List (List Nat)) (i0:Nat) (y0:List Int) (kk:Nat):Nat×(List Int)×(List (Nat×Nat)):=Nat.rec (motive:=fun _=>Nat×(List Int)×(List (Nat×Nat))) (1,List.set y0 i0 1,[(i0,0)]) (fun _ a=>vV g i0 y0 a) kk
def gg (g:List (List Nat)) (i0:Nat) (_:List Int) (w2:Nat×(List Int)×(List (Nat×Nat))):Bool:=(bif decide (((w2.1:Nat):Int)>0) then (kC g w2) else true)
def qg (g:List (List Nat)) (i0:Nat) (_:List Int) (w2:Nat×(List Int)×(List (Nat×Nat))):Bool:=(decide (((w2.1:Nat):Int)>0))
def gq (g:List (List Nat)) (i0:Nat) (y0:List Int):Nat×(List Int)×(List (Nat×Nat)):=cX g i0 y0 (dX (gg g i0 y0) (cX g i0 y0))
theorem aar {l:List Int} {c:Nat} {x:Int} (hc:c<l.length) (h:ah l c=0) (hx:x≠0):c0 (l.set c x)+1=c0 l:=by
 induction l generalizing c with
 |nil=>simp at hc
 |cons b l ih=>
  cases c with
  |zero=>
   have hb:b=0:=by simpa [ah] using h
   subst hb
   simp [c0,hx]
  |succ c=>
   have:=ih (c:=c) (by simpa using hc) (by simpa [ah] using h)
   simp only [List.set_cons_succ,c0,List.count_cons] at this⊢
   omega
theorem c0_le {l:List Int} {c:Nat} {x:Int} (hx:x≠0):c0 (l.set c x)<=c0 l:=by
 induction l generalizing c with
 |nil=>exact Nat.le_refl _
 |cons b l ih=>
  cases c with
  |zero=>
   simp only [List.set_cons_zero,c0,List.count_cons]
   have:(x==0)=false:=by simpa using hx
   rw [this]
   simp
  |succ c=>
   have:=ih (c:=c)
   simp only [List.set_cons_succ,c0,List.count_cons] at this⊢
   omega
theorem c0_lt {l:List Int} {c:Nat} {x:Int} (hc:c<l.length) (hx:x≠0):c0 (l.set c x)+1<=l.length:=by
 induction l generalizing c with
 |nil=>simp at hc
 |cons b l ih=>
  cases c with
  |zero=>
   simp only [List.set_cons_zero,c0,List.count_cons,List.length_cons]
   have:(x==0)=false:=by simpa using hx
   rw [this]
   have:=List.count_le_length (a:=(0:Int)) (l:=l)
   simp
   omega
  |succ c=>
   have:=ih (c:=c) (by simpa using hc)
   simp only [List.set_cons_succ,c0,List.count_cons,List.length_cons] at this⊢
   split<;>omega
theorem JO {w:Sk} {q j:Nat} (hj:j≠w.1-1):ah (lq w q) j=ah w.2.2 j:=by
 unfold lq ah
 rw [List.getElem?_set_ne (fun e=>hj e.symm)]
theorem WK {g:List (List Nat)} (hg:fZ g) {w:Sk} (h:SR g w) (hk:0<w.1) (hh:kC g w=false):SR g (gy g w)/\2*c0 (gy g w).2.1+(gy g w).1+1<=2*c0 w.2.1+w.1:=by
 have hs:=h.sk hg hk
 have hql:=yN (h.node _ (show w.1-1<w.1 by omega)).2
 have hlen:=h.len
 have hkl:=h.kl
 have hbd:=h.bd
 cases ha:Pj g w with
 |true=>
  obtain ⟨h1,h2⟩:=ue ha
  unfold kC at hh
  rw [ha,Bool.true_and] at hh
  unfold vU at h2
  rw [hh,Bool.not_false,Bool.true_and,Bool.not_eq_false'] at h2
  have hto:jY g w (dU g w)<g.length:=hg.wf _ (ay hs.node) _ (ay h1)
  have hc:=aar (x:=1) (by omega) (eq_of_beq h2) (by decide)
  unfold gy
  rw [ha,cond_true]
  refine ⟨⟨by simp only [List.length_set];exact hlen,?_,fun j hj=> ?_,?_⟩,?_⟩
  ·simp only [List.length_append,List.length_take,mK,List.length_cons,List.length_nil];omega
  ·simp only at hj⊢
   by_cases hjw:j<w.1
   ·have e:ah (List.take w.1 (lq w (dU g w+1))++ [(jY g w (dU g w),0)]) j=ah (lq w (dU g w+1)) j:=by
     unfold ah
     rw [List.getElem?_append_left (by rw [List.length_take,mK];omega),List.getElem?_take_of_lt hjw]
    rw [e]
    by_cases hj1:j=w.1-1
    ·subst hj1
     rw [fC hkl hk]
     exact ⟨hs.node,h1⟩
    ·rw [JO hj1]
     exact h.node j hjw
   ·have e:ah (List.take w.1 (lq w (dU g w+1))++ [(jY g w (dU g w),0)]) j=(jY g w (dU g w),0):=by
     unfold ah
     rw [List.getElem?_append_right (by rw [List.length_take,mK];omega),List.length_take,mK,show j-min w.1 w.2.2.length=0 by omega]
     rfl
    rw [e]
    exact ⟨hto,Nat.zero_le _⟩
  ·simp only;omega
  ·simp only;omega
 |false=>
  unfold gy
  rw [ha,cond_false]
  have hc:=c0_le (l:=w.2.1) (c:=(ah w.2.2 (w.1-1)).1) (x:=2) (by decide)
  refine ⟨⟨by simp only [List.length_set];exact hlen,by simp only [mK];omega,fun j hj=> ?_,by simp only;omega⟩,by simp only;omega⟩
  simp only at hj⊢
  rw [JO (by omega)]
  exact h.node j (by omega)
theorem aas {g:List (List Nat)} {i0:Nat} (hx0:i0<g.length) {y0:List Int} (hy:y0.length=g.length):SR g (1,List.set y0 i0 1,[(i0,0)]) where
 len:=by simp only [List.length_set];exact hy
 kl:=Nat.le_refl _
 node:=fun j hj=>by
  obtain rfl:j=0:=by simp only at hj;omega
  exact ⟨hx0,Nat.zero_le _⟩
 bd:=by
  have:=c0_lt (l:=y0) (c:=i0) (x:=1) (by omega) (by decide)
  simp only
  omega
theorem Uq {g:List (List Nat)} {i0:Nat} {y0:List Int} {w:Sk} (h:gg g i0 y0 w=false):0<w.1/\kC g w=false:=by
 unfold gg at h
 by_cases hk:0<w.1
 ·rw [show decide (((w.1:Nat):Int)>0)=true from decide_eq_true (by omega)] at h
  exact ⟨hk,h⟩
 ·rw [show decide (((w.1:Nat):Int)>0)=false from decide_eq_false (by omega)] at h
  cases h
theorem LY {g:List (List Nat)} (hg:fZ g) {i0:Nat} (hx0:i0<g.length) {y0:List Int} (hy:y0.length=g.length):(∃k,gg g i0 y0 (cX g i0 y0 k)=true)/\ ∀k,k<=dX (gg g i0 y0) (cX g i0 y0)->SR g (cX g i0 y0 k):=by
 have stp: ∀k,SR g (cX g i0 y0 k)->gg g i0 y0 (cX g i0 y0 k)=false->SR g (cX g i0 y0 (k+1))/\2*c0 (cX g i0 y0 (k+1)).2.1+(cX g i0 y0 (k+1)).1+1<=2*c0 (cX g i0 y0 k).2.1+(cX g i0 y0 k).1:=fun k h1 h2=>by
  obtain ⟨h3,h4⟩:=Uq h2
  exact WK hg h1 h3 h4
 have h0:SR g (cX g i0 y0 0):=aas hx0 hy
 have ex: ∃k,gg g i0 y0 (cX g i0 y0 k)=true:=by
  by_cases h: ∃k,gg g i0 y0 (cX g i0 y0 k)=true
  ·exact h
  ·have h: ∀k,gg g i0 y0 (cX g i0 y0 k)=false:=fun k=>by
    cases e:gg g i0 y0 (cX g i0 y0 k) with
    |true=>exact absurd ⟨k,e⟩ h
    |false=>rfl
   have all: ∀k,SR g (cX g i0 y0 k):=fun k=>by
    induction k with
    |zero=>exact h0
    |succ k ih=>exact (stp k ih (h k)).1
   have key: ∀k,2*c0 (cX g i0 y0 k).2.1+(cX g i0 y0 k).1+k<=2*c0 (cX g i0 y0 0).2.1+(cX g i0 y0 0).1:=fun k=>by
    induction k with
    |zero=>exact Nat.le_refl _
    |succ k ih=>
     have:=(stp k (all k) (h k)).2
     omega
   have:=key (2*c0 (cX g i0 y0 0).2.1+(cX g i0 y0 0).1+1)
   omega
 refine ⟨ex,fun k=> ?_⟩
 induction k with
 |zero=>exact fun _=>h0
 |succ k ih=>exact fun hk=>(stp k (ih (by omega)) ((iA ex).2 k (by omega))).1
abbrev zBW:=(List (Nat×Nat))
def C7 (g:List (List Nat)) (i0:Nat) (_:List Int) (w2:Nat×(List Int)×zBW):Am.Loc:=[(0,.sl 1 (zAW g)),(3,.sr 0 1 0 (length (zAW g))),(5,.sr 1 2 0 w2.1),(12,I (length (zAW g):Int)),(13,I (i0:Int))]
def vW (g:List (List Nat)) (i0:Nat) (_:List Int) (_:Nat×(List Int)×zBW):Am.Loc:=[(2,B true)]
abbrev zBs (g:List (List Nat)) (i0:Nat):Am.Loc:=[(0,.sl 1 (zAW g)),(3,.sr 0 1 0 (length (zAW g))),(12,I (length (zAW g):Int)),(13,I (i0:Int))]
def vX (g:List (List Nat)) (i0:Nat) (_:List Int) (_:Nat×(List Int)×zBW):Am.Loc:=(zBs g i0)
def C8 (g:List (List Nat)) (i0:Nat) (_:List Int) (w2:Nat×(List Int)×zBW):List Ob:=[.row 3 1 (map aL w2.2.1),.row 114 2 (map skC w2.2.2)]
def vY (g:List (List Nat)) (i0:Nat) (_:List Int) (_:Nat×(List Int)×zBW):List Ob:=[]
def vZ (g:List (List Nat)) (i0:Nat) (_:List Int) (w2:Nat×(List Int)×zBW):List Ob:=[.row 3 1 (map aL w2.2.1),.row 114 2 (map skC w2.2.2)]
def wa (g:List (List Nat)) (i0:Nat) (y0:List Int):KB:=⟨C7 g i0 y0 (cX g i0 y0 0),C8 g i0 y0 (cX g i0 y0 0),qg g i0 y0 (gq g i0 y0),.ret,vW g i0 y0 (gq g i0 y0),vY g i0 y0 (gq g i0 y0),.normal,vX g i0 y0 (gq g i0 y0),vZ g i0 y0 (gq g i0 y0),(∃k,gg g i0 y0 (cX g i0 y0 k)=true)/\ ∀k,k<=dX (gg g i0 y0) (cX g i0 y0)->SR g (cX g i0 y0 k)⟩
def C9 (g:List (List Nat)) (i0:Nat) (y0:List Int) (w2:Nat×(List Int)×zBW):List bj:=[whW (gg g i0 y0 w2) (qg g i0 y0 w2) .ret (vW g i0 y0 w2) za (vY g i0 y0 w2),nxW (gg g i0 y0 w2) (C7 g i0 y0 (vV g i0 y0 w2)) (C8 g i0 y0 (vV g i0 y0 w2)) [(0,.sl 1 (zAW g)),(3,.sr 0 1 0 (length (zAW g))),(5,.sr 1 2 0 ((gy g w2).1)),(12,I (length (zAW g):Int)),(13,I (i0:Int))] zBJ [.row 3 1 (map aL ((gy g w2).2.1)),.row 114 2 (map skC ((gy g w2).2.2))],wxW (gg g i0 y0 w2) (qg g i0 y0 w2) (.exit 2) (vX g i0 y0 w2) zBJ (vZ g i0 y0 w2)]
def XZ (g:List (List Nat)) (i0:Nat) (_:List Int) (_:Nat×(List Int)×(List (Nat×Nat))):GT:=(.r [.k,bT] (.br (.br (.pick 0) (.pick 1)) (.pick 2)))
theorem aat (g:List (List Nat)) (i0:Nat) (y0:List Int) (w2:Nat×(List Int)×(List (Nat×Nat))) (_:fZ g) (_:i0<(length g)) (_:length y0=length g) (_:SR g w2):vcC pg 96 base aO 3000 (kbL [(3,C6 g i0 y0 w2)]) FA (bu (C7 g i0 y0 w2)) (bA (C8 g i0 y0 w2)) 2 (bQ (C9 g i0 y0 w2)) (XZ g i0 y0 w2):=
 aZ (an (a1 a0)
 (brP (fun (h0:(decide (((w2.1:Nat):Int)>0))=true)=>
 (an (kbT (C6 g i0 y0 w2) h0) (brP (fun (h1:(kC g w2)=true)=>
 (lf (wy (C9 g i0 y0 w2) 0) 0 ⟨show gg g i0 y0 w2=true from (cdT h0 h1),show qg g i0 y0 w2=true from h0⟩)) (fun h1=>
 (lf (wy (C9 g i0 y0 w2) 1) 2 ⟨show gg g i0 y0 w2=false from (cdT h0 h1),congrArg (fun y2:Nat×(List Int)×(List (Nat×Nat))=>([(0,.sl 1 (map bY g)),(3,.sr 0 1 0 (length (map bY g))),(5,.sr 1 2 0 y2.1),(12,I (length (map bY g):Int)),(13,I (i0:Int))]:Am.Loc)) (show (vV g i0 y0 w2)=((gy g w2).1,(gy g w2).2.1,(gy g w2).2.2) from rfl).symm,congrArg (fun y2:Nat×(List Int)×(List (Nat×Nat))=>([.row 3 1 (map aL y2.2.1),.row 114 2 (map skC y2.2.2)]:List Ob)) (show (vV g i0 y0 w2)=((gy g w2).1,(gy g w2).2.1,(gy g w2).2.2) from rfl).symm⟩))))) (fun h0=>
 (lf (wy (C9 g i0 y0 w2) 2) 2 ⟨show gg g i0 y0 w2=true from (cdF h0 rfl),show qg g i0 y0 w2=false from h0⟩))))
 (by kernel_rfl)
theorem Ur (g:List (List Nat)) (i0:Nat) (y0:List Int) (w2:Nat×(List Int)×(List (Nat×Nat))):(C9 g i0 y0 w2).all zr=true:=by refine (aF (aQ rfl rfl rfl ?_ ?_) (aF (aQ rfl rfl rfl ?_ ?_) (aF (aQ rfl rfl rfl ?_ ?_) bD)))<;>simp (maxDischargeDepth:=9) [nxW,whW,wxW,C7,vW,vX,plS,AV.pure,C8,vY,vZ,plO]
theorem HD:dB [3] FA=[(3,lJ)]:=by kernel_rfl
theorem Us (g:List (List Nat)) (i0:Nat) (y0:List Int) (hg:fZ g) (hx0:i0<(length g)) (hy0:length y0=length g):dg pg 96 0 2 (.loop FA) (wa g i0 y0):=
 have hgl0:=hg.len;bZ (fun hp2=>BY (id:=2) (t:=gg g i0 y0) (hit:=qg g i0 y0) (it:=cX g i0 y0) (step:=vV g i0 y0) (fun _=>rfl) (I:=fun w2=>SR g w2) (xr:= .ret) (xn:=(.exit 2)) (Lr:=vW g i0 y0) (Lx:=vX g i0 y0) (obr:=vY g i0 y0) (obx:=vZ g i0 y0) (V:=fun w2=>vcC pg 96 base aO 3000 (kbL [(3,C6 g i0 y0 w2)]) FA) (C7 g i0 y0) (C8 g i0 y0) 2 (C9 g i0 y0) (XZ g i0 y0) (fun w2 hw2=>aS aw mixed (bO (l:=[(3,C6 g i0 y0 w2)]) HD (aV (Up g i0 y0 w2 hg hx0 hy0 hw2) rfl bn) rfl)) (fun e=>by cases e) (fun e=>by cases e) (fun _=>rfl) (fun w2 hw2=>aat g i0 y0 w2 hg hx0 hy0 hw2) (fun w2 _=>Ur g i0 y0 w2) (fun w2 _=>show∀ww∈C9 g i0 y0 w2,ou _ _ _ _ _ _ _ _ _ _ ww from (aG Lq (aG tn (aG BX bG)))) hp2.1 hp2.2) (fun h=>h) (fun h=>h)
def wb (g:List (List Nat)) (i0:Nat) (y0:List Int):List Int:=(bif (ah y0 i0) !=0 then y0 else (gq g i0 y0).2.1)
def cM (g:List (List Nat)) (kk:Nat):List Int:=Nat.rec (motive:=fun _=>List Int) (replicate (length (map bY g)) 0) (fun j a=>wb g j a) kk
theorem HE (g:List (List Nat)) (hg:fZ g) (i:Nat) (hi:i<=g.length):length (cM g i)=length g:=by
 induction i with
 |zero=>show (replicate _ (0:Int)).length=_;simp
 |succ i ih=>
  show length (wb g i (cM g i))=_
  unfold wb
  have ih:=ih (by omega)
  cases ah (cM g i) i !=0 with
  |true=>exact ih
  |false=>exact ((LY hg (by omega) ih).2 _ (Nat.le_refl _)).len
def uf (g:List (List Nat)) (i0:Nat):Am.Loc:=(zBs g i0)
def m8 (g:List (List Nat)) (i0:Nat):List Ob:=[.row 3 1 (map aL (cM g i0))]
def jZ (g:List (List Nat)) (i0:Nat):Bool:=(!((ah (cM g i0) i0) !=0)&&(qg g i0 (cM g i0) (gq g i0 (cM g i0))))
def HF (g:List (List Nat)):Bool:=dh (length g) (jZ g)
def wc (g:List (List Nat)) (i0:Nat):Am.Loc:=[(2,B true)]
def rD (g:List (List Nat)) (i0:Nat):List Ob:=[]
def oS (g:List (List Nat)):Am.Loc:=[]
def mL (g:List (List Nat)):List Ob:=[.row 3 1 (map aL (cM g (length g)))]
def Da (g:List (List Nat)):KB:=⟨uf g 0,m8 g 0,HF g,.ret,wc g (cc (length g) (jZ g)),rD g (cc (length g) (jZ g)),.normal,oS g,mL g,True⟩
abbrev zBh (g:List (List Nat)) (i0:Nat):Am.Loc:=[(0,.sl 1 (zAW g)),(3,.sr 0 1 0 (length (zAW g))),(12,I (length (zAW g):Int)),(13,I ↑(i0+1))]
def Db (g:List (List Nat)) (i0:Nat):List bj:=[nxW (jZ g i0) (uf g (i0+1)) (m8 g (i0+1)) (zBh g i0) zAU [.row 3 1 (map aL (cM g i0))],htW (jZ g i0) .ret (wc g i0) za (rD g i0),nxW (jZ g i0) (uf g (i0+1)) (m8 g (i0+1)) (zBh g i0) zAU [.row 3 1 (map aL ((gq g i0 (cM g i0)).2.1))]]
def X0 (g:List (List Nat)) (i0:Nat):GT:=(.r [.k,bT] (.yes (.r [bT] (.more (.r [.at i0 0 (aL (ah (cM g i0) i0)),.k,bT] (.br (.r [.int ↑(i0+1),bT] (.pick 0)) (.r [.at i0 0 (aL (ah (cM g i0) i0)),bT] (.r [bT] (.br (.pick 1) (.r [.int ↑(i0+1),bT] (.pick 2)))))))))))
theorem aau (g:List (List Nat)) (i0:Nat) (hg:fZ g) (hx0:i0<(length g)):vcC pg 96 base aO 3000 (kbL [(2,wa g i0 (cM g i0))]) C5 (bu (uf g i0)) (bA (m8 g i0)) 1 (bQ (Db g i0)) (X0 g i0):=
 have hgl0:=hg.len;have hgl:=hg.len;have hml:=HE g hg i0 (Nat.le_of_lt hx0);have l1:=aW bY (g);have hb:(decide ((i0:Int)<(length (map bY g):Int)))=true:=decide_eq_true (by omega);
 aZ (an (a1 a0)
 (an hb (an a0
 (an (a1 (ac (atL (S:=1) (f:=0) (z:=i0) (rfl:map aL (cM g i0)=map aL (cM g i0)) (by decide) (by omega)) (ac (ixL (z:=i0) (n:=length (map bY g)) (by omega)) a0)))
 (brP (fun (h1:((ah (cM g i0) i0) !=0)=true)=>have g1:=KS h1;
 (an (ac (dwr (z:= ↑(i0+1)) (by omega) (by omega)) a0)
 (lf (wy (Db g i0) 0) 1 ⟨(show jZ g i0=false from (aY (cx h1))),rfl,(by rw [show m8 g (i0+1)=(fun y0:List Int=>([.row 3 1 (map aL y0)]:List Ob)) (cM g (i0+1)) from rfl,(show cM g (i0+1)=(cM g i0) from (cdT h1 rfl))])⟩))) (fun h1=>have g1:=fO h1;
 (an (ac (stL (S:=1) (f:=0) (k:=1) (z:=i0) (rfl:map aL (cM g i0)=map aL (cM g i0)) (by decide) (by omega) rfl) (ac (ixL (z:=i0) (n:=length (map bY g)) (by omega)) a0))
 (an a0
 (an (IK (wa g i0 (cM g i0)) (S:=nm (KB.L0 (wa g i0 (cM g i0)))) rfl (bp (congrArg (fun z=>Ob.row 3 1 z) (lz (f:=aL) (rfl:map aL (cM g i0)=map aL (cM g i0)) i0 1)) (bp (rfl:(.row 114 2 [[I (i0:Int),I 0]]:Ob)= .row 114 2 [[I (i0:Int),I 0]]) eR)) (LY hg hx0 (show length (cM g i0)=length g by first|exact hy0|exact HE g hg i0 (Nat.le_of_lt hx0)))) (brP (fun (h2:(qg g i0 (cM g i0) (gq g i0 (cM g i0)))=true)=>
 (lf (wy (Db g i0) 1) 0 (show jZ g i0=true from (aE (au h1) h2)))) (fun h2=>
 (an (ac (dwr (z:= ↑(i0+1)) (by omega) (by omega)) a0)
 (lf (wy (Db g i0) 2) 2 ⟨(show jZ g i0=false from (aE (au h1) h2)),rfl,(by rw [show m8 g (i0+1)=(fun y0:List Int=>([.row 3 1 (map aL y0)]:List Ob)) (cM g (i0+1)) from rfl,(show cM g (i0+1)=((gq g i0 (cM g i0)).2.1) from (cdF h1 rfl))])⟩)))))))))))))
 (by kernel_rfl)
theorem aav (g:List (List Nat)) (hg:fZ g):vcC pg 96 base aO 3000 (kbL []) C5 (bu (uf g (length g))) (bA (m8 g (length g))) 1 (bQ [⟨True,(.exit 0),oS g,range 1,mL g⟩]) zE:=
 have hgl0:=hg.len;have hgl:=hg.len;have l1:=aW bY (g);have hb:(decide ((((length g):Nat):Int)<(length (map bY g):Int)))=false:=decide_eq_false (by omega);
 aZ (an (a1 a0)
 (an hb (lf (wy [⟨True,(.exit 0),oS g,range 1,mL g⟩] 0) 1 trivial)))
 (by kernel_rfl)
theorem Ut (g:List (List Nat)) (i0:Nat):(Db g i0).all zr=true:=by refine (aF (aQ rfl rfl rfl ?_ ?_) (aF (aQ rfl rfl rfl ?_ ?_) (aF (aQ rfl rfl rfl ?_ ?_) bD)))<;>simp (maxDischargeDepth:=9) [nxW,htW,uf,wc,plS,AV.pure,m8,rD,plO]
theorem Uu (g:List (List Nat)):bj.b8 0 ⟨True,(.exit 0),oS g,range 1,mL g⟩=true:=(aQ rfl rfl rfl rfl (by simp (maxDischargeDepth:=9) [mL,plO]))
theorem HG:dB [2] C5=[(2,.loop FA)]:=by kernel_rfl
theorem Uv (g:List (List Nat)) (hg:fZ g):dg pg 96 0 0 (.loop C5) (Da g):=
 have hgl0:=hg.len;bZ (fun _=>e9 (id:=0) (m:=length g) (t:=jZ g) (xr:= .ret) (xn:=(.exit 0)) (Lr:=wc g) (Lx:=oS g) (obr:=rD g) (obx:=mL g) (V:=fun i0=>vcC pg 96 base aO 3000 (kbL [(2,wa g i0 (cM g i0))]) C5) (uf g) (m8 g) 1 (Db g) (X0 g) _ _ (fun i0 hx0=>aS aw mixed (bO (l:=[(2,wa g i0 (cM g i0))]) HG (aV (Us g i0 (cM g i0) hg hx0 (HE g hg i0 (Nat.le_of_lt hx0))) rfl bn) rfl)) (aS aw mixed (az _)) (fun e=>by cases e) (fun e=>by cases e) (fun _=>rfl) (fun i0 hx0=>aau g i0 hg hx0) (fun i0 _=>Ut g i0) (fun i0 _=>show∀ww∈Db g i0,cy _ _ _ _ _ _ ww from (aG cg (aG da (aG cg bG)))) (aav g hg) (Uu g)) (fun h=>h) (fun h=>h)
def r30 (g:List (List Nat)):Bool:=(HF g)
theorem yb:dB [0] (aH 30)=[(0,.loop C5)]:=by kernel_rfl
theorem aaw (g:List (List Nat)) (hg:fZ g):ba pg 30 [.sl 1 (zAW g)] [] [] (B (r30 g)) []:=
 have hgl0:=hg.len;bB (fn:=Tryz.f30) (callf:=base) (pu:=aO) (lf:=3000) (l:=[(0,Da g)]) (t:=(.r [bT] (.more zh))) aw mixed Tryz.func30 (by kernel_rfl) (show Tryz.f30.body=some (aH 30) by kernel_rfl) (Nat.le_of_ble_eq_true rfl) (bO (l:=[(0,Da g)]) yb (aV (Uv g hg) rfl bn) rfl) rfl (aZ
 (an a0
 (have l1:=aW bY (g);an (ac (DE (n:=length (map bY g)) (B:=8) (by omega) (show length (map bY g)<=9223372036854775807 by omega)) a0)
 (an a0
 (an (IK (Da g) (S:=nm (KB.L0 (Da g))) rfl (bp (congrArg (fun z=>Ob.row 3 1 z) (Ou (f:=aL) (length (map bY g)) 0)) eR) trivial) (brP (fun (h0:(HF g)=true)=>
 (bE (show r30 g=true from h0))) (fun h0=>
 (an a0
 (bE (show r30 g=false from h0)))))))))
 (by kernel_rfl))
theorem Rp.head {g:List (List Nat)} {a b:Nat} (h:Rp g a b):Edg g a b\/ ∃c,Edg g a c/\Rp g c b:=by
 induction h with
 |one e=>exact .inl e
 |step h e ih=>
  rcases ih with h1|⟨c,h1,h2⟩
  ·exact .inr ⟨_,h1,.one e⟩
  ·exact .inr ⟨c,h1,.step h2 e⟩
theorem Rp.closed {g:List (List Nat)} {D:Nat->Prop} (hc: ∀v,D v-> ∀c,Edg g v c->D c) {a b:Nat} (ha:D a) (h:Rp g a b):D b:=by
 induction h with
 |one e=>exact hc _ ha _ e
 |step _ e ih=>exact hc _ ih _ e
theorem Dc {g:List (List Nat)} {v c:Nat} (h:Edg g v c):v<g.length:=by
 unfold Edg at h
 by_cases hv:v<g.length
 ·exact hv
 ·simp [ah,List.getElem?_eq_none (show g.length<=v by omega)] at h
  cases h
theorem aax {g:List (List Nat)} {v c:Nat} (h:Edg g v c): ∃p,p<(ah g v).length/\ah (ah g v) p=c:=ck h
structure DI (g:List (List Nat)) (w:Sk):Prop where
 col: ∀v,v<g.length->ah w.2.1 v=0\/ah w.2.1 v=1\/ah w.2.1 v=2
 op: ∀v,v<g.length->ah w.2.1 v=1-> ∃j,j<w.1/\(ah w.2.2 j).1=v
 on: ∀j,j<w.1->ah w.2.1 (ah w.2.2 j).1=1
 inj: ∀j j',j<w.1->j' <w.1->(ah w.2.2 j).1=(ah w.2.2 j').1->j=j'
 OT: ∀j,j+1<w.1->Edg g (ah w.2.2 j).1 (ah w.2.2 (j+1)).1
 seen: ∀j,j<w.1-> ∀p,p<(ah w.2.2 j).2->ah w.2.1 (ah (ah g (ah w.2.2 j).1) p)=2\/(j+1<w.1/\ah (ah g (ah w.2.2 j).1) p=(ah w.2.2 (j+1)).1)
 done: ∀v,v<g.length->ah w.2.1 v=2->(∀c,Edg g v c->ah w.2.1 c=2)/\ ¬Rp g v v
theorem fj {w:Sk} (h:w.1<=w.2.2.length) (hk:0<w.1) (q j:Nat):(ah (lq w q) j).1=(ah w.2.2 j).1:=by
 by_cases hj:j=w.1-1
 ·subst hj;rw [fC h hk]
 ·rw [JO hj]
theorem hJ {w:Sk} (h:w.1<=w.2.2.length) (q:Nat) (x:Nat×Nat) {j:Nat} (hj:j<w.1):ah (List.take w.1 (lq w q)++ [x]) j=ah (lq w q) j:=by
 unfold ah
 rw [List.getElem?_append_left (by rw [List.length_take,mK];omega),List.getElem?_take_of_lt hj]
theorem mM {w:Sk} (h:w.1<=w.2.2.length) (q:Nat) (x:Nat×Nat):ah (List.take w.1 (lq w q)++ [x]) w.1=x:=by
 unfold ah
 rw [List.getElem?_append_right (by rw [List.length_take,mK];omega),List.length_take,mK,show w.1-min w.1 w.2.2.length=0 by omega]
 rfl
theorem WL {g:List (List Nat)} (hg:fZ g) {w:Sk} (hw:SR g w) (h:DI g w) (hk:0<w.1) (hh:kC g w=false):DI g (gy g w)/\ ∀v,v<g.length->ah w.2.1 v≠0->ah (gy g w).2.1 v≠0:=by
 have hs:=hw.sk hg hk
 have hkl:=hw.kl
 have hlen:=hw.len
 have pass: ∀p,p<dU g w->p<(ib g w).length->ah w.2.1 (jY g w p)=2:=fun p hp hpl=>by
  by_cases hq:p<(ah w.2.2 (w.1-1)).2
  ·rcases h.seen (w.1-1) (by omega) p hq with h1|⟨h1,_⟩
   ·exact h1
   ·omega
  ·have hgo:=Nk (show (ah w.2.2 (w.1-1)).2<=p by omega) hp
   unfold vU at hgo
   simp only [Bool.and_eq_true,Bool.not_eq_true',beq_eq_false_iff_ne] at hgo
   have ht:jY g w p<g.length:=hg.wf _ (ay hs.node) _ (ay hpl)
   rcases h.col _ ht with h1|h1|h1
   ·exact absurd h1 hgo.2
   ·exact absurd h1 hgo.1
   ·exact h1
 cases ha:Pj g w with
 |true=>
  obtain ⟨h1,h2⟩:=ue ha
  have hh0:=hh
  unfold kC at hh
  rw [ha,Bool.true_and] at hh
  unfold vU at h2
  rw [hh,Bool.not_false,Bool.true_and,Bool.not_eq_false'] at h2
  have h0:ah w.2.1 (jY g w (dU g w))=0:=eq_of_beq h2
  have hto:jY g w (dU g w)<g.length:=hg.wf _ (ay hs.node) _ (ay h1)
  have hedge:Edg g (ah w.2.2 (w.1-1)).1 (jY g w (dU g w)):=ay h1
  have hsx:gy g w=(w.1+1,List.set w.2.1 (jY g w (dU g w)) 1,List.take w.1 (lq w (dU g w+1))++ [(jY g w (dU g w),0)]):=by unfold gy;rw [ha,cond_true]
  have hpassq: ∀p,p<dU g w->ah w.2.1 (jY g w p)=2:=fun p hp=>pass p hp (by omega)
  generalize htt:jY g w (dU g w)=t at*
  have hci: ∀v,ah (List.set w.2.1 t (1:Int)) v=if v=t then 1 else ah w.2.1 v:=fun v=>hH _ _ _ _ (by omega)
  have ne2: ∀v,ah w.2.1 v=2->ah (List.set w.2.1 t (1:Int)) v=2:=fun v hv=>by
   rw [hci,if_neg (fun e=>by rw [e,h0] at hv;cases hv)];exact hv
  rw [hsx]
  refine ⟨⟨fun v hv=> ?_,fun v hv hv1=> ?_,fun j hj=> ?_,fun j j' hj hj' e=> ?_,fun j hj=> ?_,fun j hj p hp=> ?_,fun v hv hv2=> ?_⟩,fun v hv hv0=> ?_⟩
  ·simp only [hci]
   split
   ·exact .inr (.inl rfl)
   ·exact h.col v hv
  ·simp only [hci] at hv1⊢
   by_cases e:v=t
   ·exact ⟨w.1,Nat.lt_succ_self _,by rw [mM hkl,e]⟩
   ·rw [if_neg e] at hv1
    obtain ⟨j,hj,hjv⟩:=h.op v hv hv1
    exact ⟨j,by omega,by rw [hJ hkl _ _ hj,fj hkl hk];exact hjv⟩
  ·simp only at hj⊢
   by_cases hjw:j<w.1
   ·rw [hJ hkl _ _ hjw,fj hkl hk,hci]
    split
    ·rfl
    ·exact h.on j hjw
   ·obtain rfl:j=w.1:=by omega
    rw [mM hkl,hci,if_pos rfl]
  ·simp only at hj hj' e
   by_cases hjw:j<w.1
   ·by_cases hjw' :j' <w.1
    ·rw [hJ hkl _ _ hjw,hJ hkl _ _ hjw',fj hkl hk,fj hkl hk] at e
     exact h.inj j j' hjw hjw' e
    ·obtain rfl:j' =w.1:=by omega
     rw [hJ hkl _ _ hjw,mM hkl,fj hkl hk] at e
     have:=h.on j hjw
     rw [e,h0] at this;cases this
   ·obtain rfl:j=w.1:=by omega
    by_cases hjw' :j' <w.1
    ·rw [hJ hkl _ _ hjw',mM hkl,fj hkl hk] at e
     have:=h.on j' hjw'
     rw [<-e,h0] at this;cases this
    ·omega
  ·simp only at hj⊢
   by_cases hjw:j+1<w.1
   ·rw [hJ hkl _ _ hjw,hJ hkl _ _ (show j<w.1 by omega),fj hkl hk,fj hkl hk]
    exact h.OT j hjw
   ·obtain rfl:j=w.1-1:=by omega
    rw [hJ hkl _ _ (show w.1-1<w.1 by omega),fj hkl hk,show w.1-1+1=w.1 by omega,mM hkl]
    exact hedge
  ·simp only at hj hp⊢
   by_cases hjw:j<w.1
   ·rw [hJ hkl _ _ hjw] at hp⊢
    rw [fj hkl hk]
    by_cases hj1:j=w.1-1
    ·subst hj1
     rw [fC hkl hk] at hp
     simp only at hp
     by_cases hpq:p<dU g w
     ·exact .inl (ne2 _ (hpassq p hpq))
     ·right
      obtain rfl:p=dU g w:=by omega
      refine ⟨by omega,?_⟩
      rw [show w.1-1+1=w.1 by omega,mM hkl]
      exact htt
    ·rw [JO hj1] at hp
     rcases h.seen j hjw p hp with h3|⟨h3,h4⟩
     ·exact .inl (ne2 _ h3)
     ·exact .inr ⟨by omega,by rw [hJ hkl _ _ h3,fj hkl hk];exact h4⟩
   ·obtain rfl:j=w.1:=by omega
    rw [mM hkl] at hp
    exact absurd hp (Nat.not_lt_zero _)
  ·simp only [hci] at hv2⊢
   have hvt:v≠t:=fun e=>by rw [if_pos e] at hv2;cases hv2
   rw [if_neg hvt] at hv2
   obtain ⟨h3,h4⟩:=h.done v hv hv2
   exact ⟨fun c hc=>by have:=ne2 c (h3 c hc);rw [hci] at this;exact this,h4⟩
  ·simp only [hci]
   split
   ·decide
   ·exact hv0
 |false=>
  have hql:=yN (h:=(hw.node _ (show w.1-1<w.1 by omega)).2)
  have hqe:dU g w=(ib g w).length:=by have:=of_decide_eq_false ha;omega
  have hsx:gy g w=(w.1-1,List.set w.2.1 (ah w.2.2 (w.1-1)).1 2,lq w (dU g w)):=by unfold gy;rw [ha,cond_false]
  have hu1:=h.on (w.1-1) (by omega)
  have hun:=hs.node
  have hall: ∀c,Edg g (ah w.2.2 (w.1-1)).1 c->ah w.2.1 c=2:=fun c hc=>by
   obtain ⟨p,hp,rfl⟩:=aax hc
   exact pass p (by rw [hqe];exact hp) hp
  have hinj:=fun j hj (e:(ah w.2.2 j).1=(ah w.2.2 (w.1-1)).1)=>h.inj j (w.1-1) hj (by omega) e
  generalize huu:(ah w.2.2 (w.1-1)).1=u at*
  have hci: ∀v,ah (List.set w.2.1 u (2:Int)) v=if v=u then 2 else ah w.2.1 v:=fun v=>hH _ _ _ _ (by omega)
  have ne2: ∀v,ah w.2.1 v=2->ah (List.set w.2.1 u (2:Int)) v=2:=fun v hv=>by
   rw [hci]
   split
   ·rfl
   ·exact hv
  have hnr: ¬Rp g u u:=fun hr=>by
   have cl: ∀v,ah w.2.1 v=2/\v<g.length-> ∀c,Edg g v c->ah w.2.1 c=2/\c<g.length:=fun v hv c hc=>⟨(h.done v hv.2 hv.1).1 c hc,ov hg.wf hc⟩
   have hu2:ah w.2.1 u=2/\u<g.length:=by
    rcases hr.head with h3|⟨c,h3,h4⟩
    ·exact ⟨hall u h3,hun⟩
    ·exact Rp.closed (D:=fun v=>ah w.2.1 v=2/\v<g.length) cl ⟨hall c h3,ov hg.wf h3⟩ h4
   rw [hu1] at hu2
   exact absurd hu2.1 (by decide)
  rw [hsx]
  refine ⟨⟨fun v hv=> ?_,fun v hv hv1=> ?_,fun j hj=> ?_,fun j j' hj hj' e=> ?_,fun j hj=> ?_,fun j hj p hp=> ?_,fun v hv hv2=> ?_⟩,fun v hv hv0=> ?_⟩
  ·simp only [hci]
   split
   ·exact .inr (.inr rfl)
   ·exact h.col v hv
  ·simp only [hci] at hv1⊢
   by_cases e:v=u
   ·rw [if_pos e] at hv1;cases hv1
   ·rw [if_neg e] at hv1
    obtain ⟨j,hj,hjv⟩:=h.op v hv hv1
    have:j≠w.1-1:=fun e2=>by subst e2;exact e (hjv.symm.trans huu)
    exact ⟨j,by omega,by rw [fj hkl hk];exact hjv⟩
  ·simp only at hj⊢
   rw [fj hkl hk,hci,if_neg (fun e=>by have:=hinj j (by omega) e;omega)]
   exact h.on j (by omega)
  ·simp only at hj hj' e
   rw [fj hkl hk,fj hkl hk] at e
   exact h.inj j j' (by omega) (by omega) e
  ·simp only at hj⊢
   rw [fj hkl hk,fj hkl hk]
   exact h.OT j (by omega)
  ·simp only at hj hp⊢
   rw [JO (by omega)] at hp
   rw [fj hkl hk,fj hkl hk]
   rcases h.seen j (by omega) p hp with h3|⟨h3,h4⟩
   ·exact .inl (ne2 _ h3)
   ·by_cases hj2:j+1<w.1-1
    ·exact .inr ⟨hj2,h4⟩
    ·left
     rw [h4,show j+1=w.1-1 by omega,huu,hci,if_pos rfl]
  ·simp only at hv2⊢
   by_cases e:v=u
   ·subst e
    exact ⟨fun c hc=>ne2 c (hall c hc),hnr⟩
   ·rw [hci,if_neg e] at hv2
    obtain ⟨h3,h4⟩:=h.done v hv hv2
    exact ⟨fun c hc=>ne2 c (h3 c hc),h4⟩
  ·simp only [hci]
   split
   ·decide
   ·exact hv0
theorem aay {g:List (List Nat)} {w:Sk} (hg:fZ g) (hw:SR g w) (h:DI g w) (hk:0<w.1) (hh:kC g w=true): ∃i,Rp g i i:=by
 unfold kC at hh
 simp only [Bool.and_eq_true] at hh
 have h1:=(ue hh.1).1
 have hs:=hw.sk hg hk
 have hto:jY g w (dU g w)<g.length:=hg.wf _ (ay hs.node) _ (ay h1)
 have hedge:Edg g (ah w.2.2 (w.1-1)).1 (jY g w (dU g w)):=ay h1
 obtain ⟨j,hj,hjt⟩:=h.op _ hto (eq_of_beq hh.2)
 have path: ∀d,j+d<w.1->d=0\/Rp g (ah w.2.2 j).1 (ah w.2.2 (j+d)).1:=fun d=>by
  induction d with
  |zero=>exact fun _=> .inl rfl
  |succ d ih=>
   intro hd
   right
   have e:=h.OT (j+d) (by omega)
   rcases ih (by omega) with rfl|h3
   ·exact .one e
   ·exact .step h3 e
 rw [<-hjt] at hedge
 refine ⟨(ah w.2.2 j).1,?_⟩
 rcases path (w.1-1-j) (by omega) with h3|h3
 ·rw [show w.1-1=j by omega] at hedge
  exact .one hedge
 ·rw [show j+(w.1-1-j)=w.1-1 by omega] at h3
  exact .step h3 hedge
structure DO (g:List (List Nat)) (y:List Int):Prop where
 len:y.length=g.length
 col: ∀v,v<g.length->ah y v=0\/ah y v=2
 done: ∀v,v<g.length->ah y v=2->(∀c,Edg g v c->ah y c=2)/\ ¬Rp g v v
theorem di_0 {g:List (List Nat)} {i0:Nat} (hx0:i0<g.length) {y:List Int} (h:DO g y) (h0:ah y i0=0):DI g (1,List.set y i0 1,[(i0,0)]):=by
 have hci: ∀v,ah (List.set y i0 (1:Int)) v=if v=i0 then 1 else ah y v:=fun v=>hH _ _ _ _ (by rw [h.len];exact hx0)
 have ne2: ∀v,ah y v=2->ah (List.set y i0 (1:Int)) v=2:=fun v hv=>by
  rw [hci,if_neg (fun e=>by rw [e,h0] at hv;cases hv)];exact hv
 refine ⟨fun v hv=> ?_,fun v hv hv1=> ?_,fun j hj=> ?_,fun j j' hj hj' _=> ?_,fun j hj=> ?_,fun j hj p hp=> ?_,fun v hv hv2=> ?_⟩
 ·simp only [hci]
  split
  ·exact .inr (.inl rfl)
  ·exact (h.col v hv).imp id .inr
 ·simp only [hci] at hv1
  by_cases e:v=i0
  ·exact ⟨0,Nat.lt_succ_self _,e.symm⟩
  ·rw [if_neg e] at hv1
   rcases h.col v hv with h3|h3<;>rw [h3] at hv1<;>cases hv1
 ·obtain rfl:j=0:=by simp only at hj;omega
  show ah (List.set y i0 1) i0=1
  rw [hci,if_pos rfl]
 ·simp only at hj hj';omega
 ·simp only at hj;omega
 ·obtain rfl:j=0:=by simp only at hj;omega
  exact absurd hp (Nat.not_lt_zero _)
 ·simp only [hci] at hv2
  have hvt:v≠i0:=fun e=>by rw [if_pos e] at hv2;cases hv2
  rw [if_neg hvt] at hv2
  obtain ⟨h3,h4⟩:=h.done v hv hv2
  exact ⟨fun c hc=>ne2 c (h3 c hc),h4⟩
theorem Uw {g:List (List Nat)} (hg:fZ g) {i0:Nat} (hx0:i0<g.length) {y:List Int} (h:DO g y) (h0:ah y i0=0):(qg g i0 y (gq g i0 y)=true-> ∃i,Rp g i i)/\(qg g i0 y (gq g i0 y)=false->DO g (gq g i0 y).2.1/\(∀v,v<g.length->ah y v=2->ah (gq g i0 y).2.1 v=2)/\ah (gq g i0 y).2.1 i0=2):=by
 obtain ⟨ex,sr⟩:=LY hg hx0 h.len
 obtain ⟨hend,hlt⟩:=iA ex
 have inv: ∀k,k<=dX (gg g i0 y) (cX g i0 y)->DI g (cX g i0 y k)/\(∀v,v<g.length->ah y v≠0->ah (cX g i0 y k).2.1 v≠0)/\ah (cX g i0 y k).2.1 i0≠0:=fun k=>by
  induction k with
  |zero=>
   intro _
   have hci: ∀v,ah (List.set y i0 (1:Int)) v=if v=i0 then 1 else ah y v:=fun v=>hH _ _ _ _ (by rw [h.len];exact hx0)
   refine ⟨di_0 hx0 h h0,fun v hv hv0=> ?_,?_⟩
   ·show ah (List.set y i0 1) v≠0
    rw [hci]
    split
    ·decide
    ·exact hv0
   ·show ah (List.set y i0 1) i0≠0
    rw [hci,if_pos rfl];decide
  |succ k ih=>
   intro hk
   obtain ⟨h1,h2,h3⟩:=ih (by omega)
   obtain ⟨h4,h5⟩:=Uq (hlt k (by omega))
   obtain ⟨h6,h7⟩:=WL hg (sr k (by omega)) h1 h4 h5
   exact ⟨h6,fun v hv hv0=>h7 v hv (h2 v hv hv0),h7 i0 hx0 h3⟩
 obtain ⟨hdi,hnz,hi0⟩:=inv _ (Nat.le_refl _)
 have hsr:=sr _ (Nat.le_refl _)
 have hE:cX g i0 y (dX (gg g i0 y) (cX g i0 y))=gq g i0 y:=rfl
 rw [hE] at hend hdi hnz hi0 hsr
 constructor
 ·intro hh
  have hk:0<(gq g i0 y).1:=by have:=of_decide_eq_true hh;omega
  refine aay hg hsr hdi hk ?_
  unfold gg at hend
  rw [show decide ((((gq g i0 y).1:Nat):Int)>0)=true from decide_eq_true (by omega)] at hend
  exact hend
 ·intro hh
  have hk:(gq g i0 y).1=0:=by have:=of_decide_eq_false hh;omega
  have hcol: ∀v,v<g.length->ah (gq g i0 y).2.1 v=0\/ah (gq g i0 y).2.1 v=2:=fun v hv=>by
   rcases hdi.col v hv with h1|h1|h1
   ·exact .inl h1
   ·obtain ⟨j,hj,_⟩:=hdi.op v hv h1;omega
   ·exact .inr h1
  exact ⟨⟨hsr.len,hcol,hdi.done⟩,fun v hv hv2=>(hcol v hv).resolve_left (hnz v hv (by rw [hv2];decide)),(hcol i0 hx0).resolve_left hi0⟩
theorem ac30 {g:List (List Nat)} (hg:fZ g) (i:Nat) (hi:i<=g.length) (hn: ∀j,j<i->jZ g j=false):DO g (cM g i)/\ ∀v,v<i->ah (cM g i) v=2:=by
 induction i with
 |zero=>
  have e: ∀v,ah (replicate (length (map bY g)) (0:Int)) v=0:=fun v=>by
   unfold ah
   rw [List.getElem?_replicate]
   split<;>rfl
  exact ⟨⟨by show (replicate _ (0:Int)).length=_;simp,fun v _=> .inl (e v),fun v _ h2=>by rw [show ah (cM g 0) v=0 from e v] at h2;cases h2⟩,fun v hv=>by omega⟩
 |succ i ih=>
  obtain ⟨h1,h2⟩:=ih (by omega) fun j hj=>hn j (by omega)
  have hi2:i<g.length:=by omega
  have ht:=hn i (by omega)
  unfold jZ at ht
  show DO g (wb g i (cM g i))/\ ∀v,v<i+1->ah (wb g i (cM g i)) v=2
  unfold wb
  cases hc:ah (cM g i) i !=0 with
  |true=>
   rw [cond_true]
   refine ⟨h1,fun v hv=> ?_⟩
   by_cases e:v=i
   ·subst e
    exact (h1.col v hi2).resolve_left (by simpa using hc)
   ·exact h2 v (by omega)
  |false=>
   rw [hc,Bool.not_false,Bool.true_and] at ht
   rw [cond_false]
   obtain ⟨h3,h4,h5⟩:=(Uw hg hi2 h1 (by simpa using hc)).2 ht
   refine ⟨h3,fun v hv=> ?_⟩
   by_cases e:v=i
   ·subst e;exact h5
   ·exact h4 v (by omega) (h2 v (by omega))
theorem aaz {g:List (List Nat)} (hg:fZ g):r30 g=gM g:=by
 show dh g.length (jZ g)=gM g
 cases h:dh g.length (jZ g) with
 |true=>
  obtain ⟨h1,h2,h3⟩:=ir h
  obtain ⟨h4,_⟩:=ac30 hg _ (Nat.le_of_lt h1) h3
  unfold jZ at h2
  simp only [Bool.and_eq_true,Bool.not_eq_true',bne_eq_false_iff_eq] at h2
  exact (aM.2 ((Uw hg h1 h4 h2.1).1 h2.2)).symm
 |false=>
  obtain ⟨h4,h5⟩:=ac30 hg _ (Nat.le_refl _) (bL.1 h)
  have: ¬ ∃i,Rp g i i:=fun ⟨i,hr⟩=>by
   have hi:i<g.length:=by
    rcases hr.head with h6|⟨c,h6,_⟩<;>exact Dc h6
   exact (h4.done i hi (h5 i hi)).2 hr
  cases hf:gM g with
  |true=>exact absurd (aM.1 hf) this
  |false=>rfl
theorem LZ:dP:=fun g hg=>by
 have:=aaw g hg
 rw [aaz hg] at this
 exact this
theorem xw (n:Net) (hf:bg n):ba pg 10 [.ag (aR n)] [] [] (I (r10 n)) []:=Wz n LZ hf
def we (R:Nat) (a b:List Bool):Prop:= ∀i,i<R->ah a i=true->ah b i=true
section
variable {R:Nat} {st:Nat->Bool×List Bool->Bool×List Bool} {F:List Bool->Nat->Bool} (hst: ∀i y,st i y=bif !(ah y.2 i) then (bif F y.2 i then (true,List.set y.2 i true) else (y.1,y.2)) else (y.1,y.2))
def oT (st:Nat->Bool×List Bool->Bool×List Bool) (w:List Bool) (k:Nat):Bool×List Bool:=Nat.rec (motive:=fun _=>Bool×List Bool) (false,w) (fun j a=>st j a) k
 include hst
theorem Ux (w:List Bool) (k:Nat):(oT st w k).2.length=w.length:=by
 induction k with
 |zero=>rfl
 |succ k ih=>
  show (st k (oT st w k)).2.length=_
  rw [hst]
  cases ah (oT st w k).2 k<;>cases F (oT st w k).2 k<;>simp [ih]
theorem Nl (w:List Bool) (k:Nat) (h:(oT st w k).1=false):(oT st w k).2=w/\ ∀i,i<k->ah w i=true\/F w i=false:=by
 induction k with
 |zero=>exact ⟨rfl,fun i hi=>by omega⟩
 |succ k ih=>
  have e:oT st w (k+1)=st k (oT st w k):=rfl
  rw [e,hst] at h⊢
  cases h1:ah (oT st w k).2 k with
  |true=>
   rw [h1] at h
   simp only [Bool.not_true,cond_false] at h⊢
   obtain ⟨h2,h3⟩:=ih h
   refine ⟨h2,fun i hi=> ?_⟩
   by_cases hik:i=k
   ·subst hik;rw [h2] at h1;exact .inl h1
   ·exact h3 i (by omega)
  |false=>
   rw [h1] at h
   simp only [Bool.not_false,cond_true] at h⊢
   cases h4:F (oT st w k).2 k with
   |true=>rw [h4] at h;cases h
   |false=>
    rw [h4] at h
    simp only [cond_false] at h⊢
    obtain ⟨h2,h3⟩:=ih h
    refine ⟨h2,fun i hi=> ?_⟩
    by_cases hik:i=k
    ·subst hik;rw [h2] at h4;exact .inr h4
    ·exact h3 i (by omega)
theorem JP (w c:List Bool) (hw:w.length=R) (hs:we R w c) (hF: ∀e,we R e c-> ∀i,i<R->F e i=true->ah c i=true) (k:Nat) (hk:k<=R):we R (oT st w k).2 c:=by
 induction k with
 |zero=>exact hs
 |succ k ih=>
  have ih:=ih (by omega)
  have e:oT st w (k+1)=st k (oT st w k):=rfl
  rw [e,hst]
  cases h1:ah (oT st w k).2 k with
  |true=>exact ih
  |false=>
   cases h4:F (oT st w k).2 k with
   |false=>exact ih
   |true=>
    simp only [Bool.not_false,cond_true]
    intro i hi hgi
    rw [hH _ _ _ _ (by rw [Ux hst,hw];omega)] at hgi
    by_cases hik:i=k
    ·subst hik;exact hF _ ih i (by omega) h4
    ·rw [if_neg hik] at hgi;exact ih i hi hgi
end
theorem Rp.mono {g g' :List (List Nat)} (h: ∀a b,Edg g a b->Edg g' a b) {a b:Nat} (r:Rp g a b):Rp g' a b:=by
 induction r with
 |one e=>exact .one (h _ _ e)
 |step _ e ih=>exact .step ih (h _ _ e)
theorem Uy {n:Net} {a b:List Bool} (hs:we n.rules.length a b) {e:Edge} (he:e.op=2->0<=e.n/\e.n<(n.rules.length:Int)) (h:okT a e=true):okT b e=true:=by
 unfold okT at h⊢
 cases h1:e.op==1 with
 |true=>rw [h1] at h;cases h
 |false=>
  rw [h1] at h
  cases h2:e.op==2 with
  |true=>
   rw [h2] at h
   have hn:=he (eq_of_beq h2)
   exact hs e.n.toNat (by omega) h
  |false=>rfl
theorem WM {n:Net} (hn:bw n) {a b:List Bool} (hs:we n.rules.length a b) {x y:Nat} (h:Rp (gA (okT a) n) x y):Rp (gA (okT b) n) x y:=h.mono fun i c e=>by
 have hi:=Dc e
 rw [rh] at hi
 obtain ⟨d,hd,h1,h2⟩:=re.1 e
 exact re.2 ⟨d,hd,Uy hs (hn.call _ (ay hi) _ hd) h1,h2⟩
noncomputable def Fe (n:Net) (e:List Bool) (i:Nat):Bool:=dec (Rp (gA (okT e) n) (ah n.rules i).start.toNat (ah n.rules i).stop.toNat)
theorem Nn {n:Net} (hn:bw n) {a b:List Bool} (hs:we n.rules.length a b) (i:Nat) (h:Fe n a i=true):Fe n b i=true:=aM.2 (WM hn hs (aM.1 h))
theorem Uz {n:Net} (hn:bw n) (e:List Bool) {i:Nat} (hi:i<n.rules.length):aB (lG n e (ah n.rules i).start) (ah n.rules i).stop=Fe n e i:=by
 have:=hn.stop _ (ay hi)
 exact EW (by rw [rh];omega)
theorem UA {n:Net} (hn:bw n) (hne: ∀r∈n.rules,r.start≠r.stop) (e:List Bool) {i:Nat} (hi:i<n.rules.length):aB (dG (okT e) n (ah n.rules i).start.toNat) (ah n.rules i).stop=Fe n e i:=by
 have h1:=hn.stop _ (ay hi)
 have h2:=hn.start _ (ay hi)
 have h3:=hne _ (ay hi)
 refine (B5 (by omega)).trans ?_
 unfold Fe
 congr 1
 refine propext ⟨fun h=>h.resolve_left (by omega),.inr⟩
def ClE (n:Net) (c:List Bool):Prop:= ∀i,i<n.rules.length->Fe n c i=true->ah c i=true
theorem No (n:Net) (c:List Bool):we n.rules.length (replicate (length (map aD n.rules)) false) c:=fun i _ h=>by
 unfold ah at h
 rw [List.getElem?_replicate] at h
 split at h<;>cases h
theorem Pl {n:Net} (hn:bw n):ClE n (r24 n)/\ ∀c,ClE n c->we n.rules.length (r24 n) c:=by
 have hst: ∀w:Bool×List Bool,∀i y,oK n w i y=bif !(ah y.2 i) then (bif (fun (_:List Bool) i=>aB (lG n w.2 (ah n.rules i).start) (ah n.rules i).stop) y.2 i then (true,List.set y.2 i true) else (y.1,y.2)) else (y.1,y.2):=fun w i y=>rfl
 have hac: ∀w k,bU n w k=oT (oK n w) w.2 k:=fun w k=>rfl
 obtain ⟨ex,len⟩:=TG n
 obtain ⟨hend,_⟩:=iA ex
 constructor
 ·have he:(jl n).1=false:=by
   have:jX n (jl n)=true:=hend
   simpa [jX] using this
  cases hK:dX (jX n) (dm n) with
  |zero=>
   unfold jl at he
   rw [hK] at he;cases he
  |succ K=>
   have hE:jl n=bU n (dm n K) n.rules.length:=by unfold jl;rw [hK];rfl
   rw [hE,hac] at he
   obtain ⟨h1,h2⟩:=Nl (F:=fun (_:List Bool) i=>aB (lG n (dm n K).2 (ah n.rules i).start) (ah n.rules i).stop) (hst (dm n K)) _ _ he
   intro i hi hF
   show ah (jl n).2 i=true
   have hr:r24 n=(dm n K).2:=by unfold r24;rw [hE,hac,h1]
   rw [hr] at hF
   rw [hE,hac,h1]
   rcases h2 i hi with h3|h3
   ·exact h3
   ·rw [Uz hn _ hi,hF] at h3;cases h3
 ·intro c hc
  have key: ∀k,we n.rules.length (dm n k).2 c:=fun k=>by
   induction k with
   |zero=>exact No n c
   |succ k ih=>
    show we n.rules.length (bU n (dm n k) n.rules.length).2 c
    rw [hac]
    exact JP (F:=fun (_:List Bool) i=>aB (lG n (dm n k).2 (ah n.rules i).start) (ah n.rules i).stop) (hst (dm n k)) _ c (Fl n k) ih (fun e _ i hi hF=>by
     rw [Uz hn _ hi] at hF
     exact hc i hi (Nn hn ih i hF)) _ (Nat.le_refl _)
  exact key _
theorem Pm {n:Net} (hn:bw n) (hne: ∀r∈n.rules,r.start≠r.stop):ClE n (r25 n)/\ ∀c,ClE n c->we n.rules.length (r25 n) c:=by
 have hst: ∀w:Bool×List Bool,∀i y,oz n w i y=bif !(ah y.2 i) then (bif (fun (e:List Bool) i=>aB (dG (okT e) n (ah n.rules i).start.toNat) (ah n.rules i).stop) y.2 i then (true,List.set y.2 i true) else (y.1,y.2)) else (y.1,y.2):=fun w i y=>rfl
 have hac: ∀w k,bH n w k=oT (oz n w) w.2 k:=fun w k=>rfl
 obtain ⟨ex,len⟩:=SF n
 obtain ⟨hend,_⟩:=iA ex
 constructor
 ·have he:(jk n).1=false:=by
   have:jU n (jk n)=true:=hend
   simpa [jU] using this
  cases hK:dX (jU n) (dv n) with
  |zero=>
   unfold jk at he
   rw [hK] at he;cases he
  |succ K=>
   have hE:jk n=bH n (dv n K) n.rules.length:=by unfold jk;rw [hK];rfl
   rw [hE,hac] at he
   obtain ⟨h1,h2⟩:=Nl (F:=fun (e:List Bool) i=>aB (dG (okT e) n (ah n.rules i).start.toNat) (ah n.rules i).stop) (hst (dv n K)) _ _ he
   intro i hi hF
   show ah (jk n).2 i=true
   have hr:r25 n=(dv n K).2:=by unfold r25;rw [hE,hac,h1]
   rw [hr] at hF
   rw [hE,hac,h1]
   rcases h2 i hi with h3|h3
   ·exact h3
   ·rw [UA hn hne _ hi,hF] at h3;cases h3
 ·intro c hc
  have key: ∀k,we n.rules.length (dv n k).2 c:=fun k=>by
   induction k with
   |zero=>exact No n c
   |succ k ih=>
    show we n.rules.length (bH n (dv n k) n.rules.length).2 c
    rw [hac]
    exact JP (F:=fun (e:List Bool) i=>aB (dG (okT e) n (ah n.rules i).start.toNat) (ah n.rules i).stop) (hst (dv n k)) _ c (E1 n k) ih (fun e hse i hi hF=>by
     rw [UA hn hne _ hi] at hF
     exact hc i hi (Nn hn hse i hF)) _ (Nat.le_refl _)
  exact key _
theorem Np {n:Net} (hn:bw n) (hne: ∀r∈n.rules,r.start≠r.stop):r24 n=r25 n:=by
 obtain ⟨a1,a2⟩:=Pl hn
 obtain ⟨b1,b2⟩:=Pm hn hne
 have h1:=a2 _ b1
 have h2:=b2 _ a1
 refine List.ext_getElem? fun i=> ?_
 have l1:=Hz n
 have l2:=kA n
 by_cases hi:i<n.rules.length
 ·rw [eZ (by omega),eZ (by omega)]
  congr 1
  cases e1:ah (r24 n) i with
  |true=>exact (h1 i hi e1).symm
  |false=>
   cases e2:ah (r25 n) i with
   |true=>rw [h2 i hi e2] at e1;cases e1
   |false=>rfl
 ·rw [List.getElem?_eq_none (by omega),List.getElem?_eq_none (by omega)]
structure Own (n:Net):Prop where
 aK: ∀s∈n.aa,0<=s.aK/\s.aK<(n.rules.length:Int)
 stop: ∀i,i<n.rules.length->(aB n.aa (ah n.rules i).stop).aK=(i:Nat)
 to: ∀s∈n.aa,∀e∈s.aj,(aB n.aa e.to).aK=s.aK
 ne: ∀r∈n.rules,r.start≠r.stop
theorem FB {n:Net} {s r:Int} (h:r67 n s r=true):(aB n.aa s).aK=r:=by
 unfold r67 at h
 simp only [Bool.and_eq_true] at h
 exact eq_of_beq h.2.2
theorem X1 {n:Net} (h2:r32 n=true) (h3:r33 n=true):Own n where
 aK:=fun s hs=>by
  obtain ⟨i,hi,rfl⟩:=ck hs
  exact (vI h3 hi).1
 stop:=fun i hi=>FB (LF h2 hi).2
 to:=fun s hs e he=>by
  obtain ⟨i,hi,rfl⟩:=ck hs
  obtain ⟨k,hk,rfl⟩:=ck he
  have h:=(vI h3 hi).2 k hk
  unfold r68 at h
  simp only [Bool.and_eq_true,Bool.not_not] at h
  exact FB h.1
 ne:=fun r hr=>by
  obtain ⟨i,hi,rfl⟩:=ck hr
  have:=bL.1 (show sQ n=false by simpa [r32] using h2) i hi
  unfold jR at this
  simp only [Bool.or_eq_false_iff,beq_eq_false_iff_ne] at this
  exact this.2.2.1
theorem L4 (n:Net) (i4:Nat) (y:List Bool) (k v:Nat) (hk:k<=y.length):ah (cL n i4 y k) v=if v<k then (ah (List.set y (ah n.rules i4).stop.toNat true) v||ah (fp n (ah n.rules i4).stop) v) else ah (List.set y (ah n.rules i4).stop.toNat true) v:=by
 induction k generalizing v with
 |zero=>rw [if_neg (Nat.not_lt_zero _)];rfl
 |succ k ih=>
  show ah (vP n i4 y k (cL n i4 y k)) v=_
  have hl:k<(cL n i4 y k).length:=by rw [Hv];omega
  have e:vP n i4 y k (cL n i4 y k)=List.set (cL n i4 y k) k (ah (cL n i4 y k) k||ah (fp n (ah n.rules i4).stop) k):=by
   unfold vP
   cases ah (cL n i4 y k) k<;>rfl
  rw [e,hH _ _ _ _ hl]
  by_cases hv:v=k
  ·subst hv
   rw [if_pos rfl,if_pos (Nat.lt_succ_self _),ih v (by omega),if_neg (Nat.lt_irrefl _)]
  ·rw [if_neg hv,ih v (by omega)]
   by_cases hv2:v<k
   ·rw [if_pos hv2,if_pos (by omega)]
   ·rw [if_neg hv2,if_neg (by omega)]
theorem L5 {n:Net} (hn:bw n) (k v:Nat) (hk:k<=n.rules.length) (hv:v<n.aa.length):ah (dH n k) v=true↔ ∃i,i<k/\(v=(ah n.rules i).stop.toNat\/Rp (gf n) (ah n.rules i).stop.toNat v):=by
 induction k with
 |zero=>
  constructor
  ·intro h
   have h:ah (replicate (length (map ak n.aa)) false) v=true:=h
   unfold ah at h
   rw [List.getElem?_replicate] at h
   split at h<;>cases h
  ·rintro ⟨i,hi,_⟩;omega
 |succ k ih=>
  have ih:=ih (by omega)
  have hst:=hn.stop _ (ay (show k<n.rules.length by omega))
  have hl:=pw n k
  show ah (cL n k (dH n k) (length (fp n (ah n.rules k).stop))) v=true↔_
  rw [L4 _ _ _ _ _ (by rw [lI,hl];exact Nat.le_refl _),lI,if_pos hv,Bool.or_eq_true,hH _ _ _ _ (by rw [hl];omega)]
  have hfb:ah (fp n (ah n.rules k).stop) v=true↔Rp (gf n) (ah n.rules k).stop.toNat v:=by
   unfold fp
   rw [EW (by rw [lH];exact hv)]
   exact aM
  rw [hfb]
  constructor
  ·rintro (h|h)
   ·split at h
    ·rename_i e;exact ⟨k,Nat.lt_succ_self _,.inl e⟩
    ·obtain ⟨i,hi,h⟩:=ih.1 h;exact ⟨i,by omega,h⟩
   ·exact ⟨k,Nat.lt_succ_self _,.inr h⟩
  ·rintro ⟨i,hi,h⟩
   by_cases e:i=k
   ·subst e
    rcases h with h|h
    ·left;rw [if_pos h]
    ·exact .inr h
   ·left
    split
    ·rfl
    ·exact ih.2 ⟨i,by omega,h⟩
theorem aaA (l:List Bool):r65 l=dh l.length (fun i=> !(ah l i)):=by
 have e:m7 l=fun i=> !(ah l i):=funext fun i=>by
  unfold m7
  cases ah l i<;>rfl
 unfold r65 r90 yM
 rw [e]
 cases dh l.length (fun i=> !(ah l i)) with
 |true=>exact decide_eq_true (by simp only [cond_true];omega)
 |false=>rfl
theorem Rp.cons {g:List (List Nat)} {a b c:Nat} (e:Edg g a b) (r:Rp g b c):Rp g a c:=(Rp.one e).trans r
theorem HH {n:Net} (hn:bw n) {a b:Nat}:Rp (gf n) a b↔Rp (gA okF n) b a:=by
 have he: ∀x y,Edg (gf n) x y↔Edg (gA okF n) y x:=fun x y=>by
  rw [Fu hn.to,re]
  constructor
  ·rintro ⟨_,e,h1,h2⟩;exact ⟨e,h1,rfl,h2⟩
  ·rintro ⟨e,h1,_,h2⟩
   refine ⟨?_,e,h1,h2⟩
   by_cases hy:y<n.aa.length
   ·exact hy
   ·rw [show ah n.aa y=default by simp [ah,List.getElem?_eq_none (show n.aa.length<=y by omega)]] at h1
    simp [default,instInhabitedState.default] at h1
 constructor
 ·intro h
  induction h with
  |one e=>exact .one ((he _ _).1 e)
  |step _ e ih=>exact Rp.cons ((he _ _).1 e) ih
 ·intro h
  induction h with
  |one e=>exact .one ((he _ _).2 e)
  |step _ e ih=>exact Rp.cons ((he _ _).2 e) ih
theorem WN {n:Net} (ho:Own n) (_:bw n) {a b:Nat} (h:Rp (gA okF n) a b):(ah n.aa b).aK=(ah n.aa a).aK:=by
 have one: ∀x y,Edg (gA okF n) x y->(ah n.aa y).aK=(ah n.aa x).aK:=fun x y e=>by
  have hx:=Dc e
  rw [rh] at hx
  obtain ⟨d,hd,_,h2⟩:=re.1 e
  have:=ho.to _ (ay hx) d hd
  rw [<-this,<-h2];rfl
 induction h with
 |one e=>exact one _ _ e
 |step _ e ih=>exact (one _ _ e).trans ih
theorem aaB {n:Net} (hn:bw n) (ho:Own n):r29 n= !(kB n):=by
 have hl:=pw n n.rules.length
 have h1:r29 n=true↔ ∀v,v<n.aa.length->ah (dH n n.rules.length) v=true:=by
  unfold r29
  rw [aaA,Bool.not_eq_true',bL,hl]
  exact ⟨fun h v hv=>by simpa using h v hv,fun h v hv=>by simpa using h v hv⟩
 have h2:kB n=false↔ ∀v,v<n.aa.length->((aB n.rules (ah n.aa v).aK).stop.toNat=v\/Rp (gA okF n) v (aB n.rules (ah n.aa v).aK).stop.toNat):=by
  unfold kB
  rw [bL]
  have key: ∀v,v<n.aa.length->(qd n v=false↔((aB n.rules (ah n.aa v).aK).stop.toNat=v\/Rp (gA okF n) v (aB n.rules (ah n.aa v).aK).stop.toNat)):=fun v hv=>by
   have hr:=ho.aK _ (ay hv)
   have hs:=hn.stop _ (tC (.inr hr))
   have e:aB (kO n ((v:Nat):Int)) (aB n.rules (ah n.aa v).aK).stop=dec ((aB n.rules (ah n.aa v).aK).stop.toNat=v\/Rp (gA okF n) v (aB n.rules (ah n.aa v).aK).stop.toNat):=B5 (by omega)
   unfold qd
   rw [e,Bool.not_eq_false']
   exact aM
  exact ⟨fun h v hv=>(key v hv).1 (h v hv),fun h v hv=>(key v hv).2 (h v hv)⟩
 have h3:r29 n=true↔kB n=false:=by
  rw [h1,h2]
  refine forall_congr' fun v=> ?_
  refine imp_congr_right fun hv=> ?_
  rw [L5 hn _ _ (Nat.le_refl _) hv]
  have hr:=ho.aK _ (ay hv)
  constructor
  ·rintro ⟨i,hi,h⟩
   have hsi:=ho.stop i hi
   have hri:(ah n.aa v).aK=(i:Nat):=by
    rcases h with h|h
    ·rw [h];exact hsi
    ·have:=WN ho hn ((HH hn).1 h)
     rw [<-this];exact hsi
   have hg:aB n.rules (ah n.aa v).aK=ah n.rules i:=by rw [hri];rfl
   rw [hg]
   exact h.imp (fun e=>e.symm) (HH hn).1
  ·intro h
   refine ⟨(ah n.aa v).aK.toNat,by omega,?_⟩
   exact h.imp (fun e=>e.symm) (HH hn).2
 cases e1:r29 n with
 |true=>rw [h3.1 e1];rfl
 |false=>
  cases e2:kB n with
  |true=>rfl
  |false=>rw [h3.2 e2] at e1;cases e1
theorem L6 {n:Net} (h:r24 n=r25 n):ud n=tI n:=by
 unfold ud tI
 congr 1
 funext i
 unfold uc tH
 rw [h]
structure FM (N:Nat) (y z:fH) (l:List Int):Prop where
 len:z.2.1.length=y.2.1.length
 up: ∀v:Nat,ah y.2.1 v=true->ah z.2.1 v=true
 all: ∀x∈l,ah z.2.1 x.toNat=true
 dn: ∀v:Nat,ah z.2.1 v=true->ah y.2.1 v=true\/((v:Nat):Int)∈l
 le:y.1<=z.1
 kt:z.1<=z.2.2.length
 old: ∀j,j<y.1->ah z.2.2 j=ah y.2.2 j
 new: ∀j,y.1<=j->j<z.1->ah z.2.2 j∈l
 on: ∀v:Nat,ah z.2.1 v=true->ah y.2.1 v=true\/ ∃j,j<z.1/\ah z.2.2 j=((v:Nat):Int)
theorem FM.refl {N:Nat} {y:fH} (h:y.1<=y.2.2.length):FM N y y []:=⟨rfl,fun _ h=>h,fun x h=>by simp at h,fun _ h=> .inl h,Nat.le_refl _,h,fun _ _=>rfl,fun j h1 h2=>by omega,fun _ h=> .inl h⟩
theorem FM.push {N:Nat} {y:fH} (hl:y.2.1.length=N) (hk:y.1<=y.2.2.length) {x:Int} (h0:0<=x/\x<(N:Int)):FM N y (gb y x) [x]:=by
 unfold gb
 cases hx:ah y.2.1 x.toNat with
 |true=>
  refine ⟨rfl,fun _ h=>h,fun z hz=> ?_,fun _ h=> .inl h,Nat.le_refl _,hk,fun _ _=>rfl,fun j h1 h2=> ?_,fun _ h=> .inl h⟩
  ·rw [List.mem_singleton.1 hz];exact hx
  ·simp only [Bool.not_true,cond_false] at h2;omega
 |false=>
  simp only [Bool.not_false,cond_true]
  have hci: ∀v,ah (List.set y.2.1 x.toNat true) v=if v=x.toNat then true else ah y.2.1 v:=fun v=>hH _ _ _ _ (by omega)
  have hpl: ∀j,j<y.1->ah (List.take y.1 y.2.2++ [x]) j=ah y.2.2 j:=fun j hj=>by
   unfold ah
   rw [List.getElem?_append_left (by rw [List.length_take];omega),List.getElem?_take_of_lt hj]
  have hpa:ah (List.take y.1 y.2.2++ [x]) y.1=x:=by
   unfold ah
   rw [List.getElem?_append_right (by rw [List.length_take];omega),List.length_take,show y.1-min y.1 y.2.2.length=0 by omega]
   rfl
  refine ⟨List.length_set,fun v h=> ?_,fun z hz=> ?_,fun v h=> ?_,Nat.le_succ _,?_,hpl,fun j h1 h2=> ?_,fun v h=> ?_⟩
  ·simp only [hci];split<;>first|rfl|exact h
  ·rw [List.mem_singleton.1 hz];simp only [hci,if_true]
  ·simp only [hci] at h
   split at h
   ·rename_i e;right;rw [e];simp;omega
   ·exact .inl h
  ·simp only [List.length_append,List.length_take,List.length_cons,List.length_nil];omega
  ·obtain rfl:j=y.1:=by simp only at h2;omega
   rw [hpa];simp
  ·simp only [hci] at h
   split at h
   ·rename_i e;right;exact ⟨y.1,Nat.lt_succ_self _,by rw [hpa,e];omega⟩
   ·exact .inl h
theorem FM.trans {N:Nat} {a b c:fH} {l m:List Int} (h:FM N a b l) (k:FM N b c m):FM N a c (l++m) where
 len:=k.len.trans h.len
 up:=fun v hv=>k.up v (h.up v hv)
 all:=fun x hx=>(List.mem_append.1 hx).elim (fun hx=>k.up _ (h.all x hx)) (k.all x)
 dn:=fun v hv=>(k.dn v hv).elim (fun hv=>(h.dn v hv).imp id fun hm=>List.mem_append_left _ hm) fun hm=> .inr (List.mem_append_right _ hm)
 le:=Nat.le_trans h.le k.le
 kt:=k.kt
 old:=fun j hj=>(k.old j (Nat.lt_of_lt_of_le hj h.le)).trans (h.old j hj)
 new:=fun j h1 h2=>by
  by_cases hj:j<b.1
  ·rw [k.old j hj];exact List.mem_append_left _ (h.new j h1 hj)
  ·exact List.mem_append_right _ (k.new j (by omega) h2)
 on:=fun v hv=>(k.on v hv).elim (fun hv=>(h.on v hv).imp id fun ⟨j,hj,e⟩=>⟨j,Nat.lt_of_lt_of_le hj k.le,(k.old j hj).trans e⟩) fun hh=> .inr hh
theorem FM.fold {N:Nat}: ∀(l:List Int) {y:fH},y.2.1.length=N->y.1<=y.2.2.length->(∀x∈l,0<=x/\x<(N:Int))->FM N y (l.foldl gb y) l
 |[],_,_,hk,_=>FM.refl hk
 |x::l,y,hl,hk,hr=>by
  have h1:=FM.push hl hk (hr x List.mem_cons_self)
  exact h1.trans (FM.fold l (h1.len.trans hl) h1.kt fun z hz=>hr z (List.mem_cons_of_mem _ hz))
structure PI (g:List (List Nat)) (i0:Nat) (w:fH):Prop where
 len:w.2.1.length=g.length
 kt:w.1<=w.2.2.length
 pl: ∀j,j<w.1-> ∃v:Nat,ah w.2.2 j=((v:Nat):Int)/\v<g.length/\(v=i0\/Rp g i0 v)
 mrk: ∀v,ah w.2.1 v=true->Rp g i0 v/\v≠i0
 cl: ∀v,v<g.length->(v=i0\/ah w.2.1 v=true)->(∃j,j<w.1/\ah w.2.2 j=((v:Nat):Int))\/ ∀c,Edg g v c->ah w.2.1 c=true
theorem pi_0 {g:List (List Nat)} {i0:Nat} (h:i0<g.length):PI g i0 (1,replicate g.length false,[(i0:Int)]):=by
 have e: ∀v,ah (replicate g.length false) v=false:=fun v=>by
  unfold ah
  rw [List.getElem?_replicate]
  split<;>rfl
 refine ⟨by simp,Nat.le_refl _,fun j hj=> ?_,fun v hv=> ?_,fun v hv hh=> ?_⟩
 ·obtain rfl:j=0:=by simp only at hj;omega
  exact ⟨i0,rfl,h,.inl rfl⟩
 ·simp only [e] at hv;cases hv
 ·rcases hh with rfl|hh
  ·exact .inl ⟨0,Nat.lt_succ_self _,rfl⟩
  ·simp only [e] at hh;cases hh
theorem WO {g:List (List Nat)} (hw:Wf g) {i0:Nat} {w:fH} (h:PI g i0 w) (hk:0<w.1) {l:List Int} (hl: ∀x:Int,x∈l↔0<=x/\Edg g (ah w.2.2 (w.1-1)).toNat x.toNat) (hn:(i0:Int)∉l):PI g i0 (l.foldl gb (w.1-1,w.2.1,w.2.2)):=by
 obtain ⟨s,hs1,hs2,hs3⟩:=h.pl (w.1-1) (by omega)
 rw [hs1,Int.toNat_natCast] at hl
 have hr: ∀x∈l,0<=x/\x<(g.length:Int):=fun x hx=>by
  obtain ⟨h1,h2⟩:=(hl x).1 hx
  have:=ov hw h2
  omega
 have hf:=FM.fold l (y:=(w.1-1,w.2.1,w.2.2)) h.len (by have:=h.kt;simp only;omega) hr
 generalize l.foldl gb (w.1-1,w.2.1,w.2.2)=z at hf
 have reach: ∀v:Nat,((v:Nat):Int)∈l->Rp g i0 v:=fun v hv=>by
  have:=((hl _).1 hv).2
  rw [Int.toNat_natCast] at this
  rcases hs3 with rfl|h3
  ·exact .one this
  ·exact .step h3 this
 refine ⟨hf.len.trans h.len,hf.kt,fun j hj=> ?_,fun v hv=> ?_,fun v hv hh=> ?_⟩
 ·by_cases hjw:j<w.1-1
  ·rw [hf.old j hjw];exact h.pl j (by omega)
  ·have hm:=hf.new j (by simp only;omega) hj
   obtain ⟨h1,h2⟩:=hr _ hm
   refine ⟨(ah z.2.2 j).toNat,by omega,by omega,.inr (reach _ ?_)⟩
   rw [show (((ah z.2.2 j).toNat:Nat):Int)=ah z.2.2 j by omega]
   exact hm
 ·rcases hf.dn v hv with h1|h1
  ·exact h.mrk v h1
  ·exact ⟨reach v h1,fun e=>hn (e▸h1)⟩
 ·have succ: ∀c,Edg g s c->ah z.2.1 c=true:=fun c hc=>by
   have:=hf.all ((c:Nat):Int) ((hl _).2 ⟨by omega,by rw [Int.toNat_natCast];exact hc⟩)
   rwa [Int.toNat_natCast] at this
  have oldc:(v=i0\/ah w.2.1 v=true)->(∃j,j<z.1/\ah z.2.2 j=((v:Nat):Int))\/ ∀c,Edg g v c->ah z.2.1 c=true:=fun hh=>by
   rcases h.cl v hv hh with ⟨j,hj,e⟩|h1
   ·by_cases hjw:j<w.1-1
    ·exact .inl ⟨j,Nat.lt_of_lt_of_le hjw hf.le,(hf.old j hjw).trans e⟩
    ·right
     obtain rfl:j=w.1-1:=by omega
     rw [hs1] at e
     obtain rfl:s=v:=by omega
     exact succ
   ·exact .inr fun c hc=>hf.up c (h1 c hc)
  rcases hh with hh|hh
  ·exact oldc (.inl hh)
  ·rcases hf.on v hh with h1|h1
   ·exact oldc (.inr h1)
   ·exact .inl h1
theorem aaC {g:List (List Nat)} (hw:Wf g) {i0:Nat} (hi:i0<g.length) {w:fH} (h:PI g i0 w) (hk:w.1=0): ¬Rp g i0 i0:=fun hr=>by
 have cl: ∀v,v<g.length->(v=i0\/ah w.2.1 v=true)-> ∀c,Edg g v c->ah w.2.1 c=true:=fun v hv hh=>by
  rcases h.cl v hv hh with ⟨j,hj,_⟩|h1
  ·omega
  ·exact h1
 have:ah w.2.1 i0=true/\i0<g.length:=by
  rcases hr.head with h1|⟨c,h1,h2⟩
  ·exact ⟨cl i0 hi (.inl rfl) _ h1,hi⟩
  ·exact Rp.closed (D:=fun v=>ah w.2.1 v=true/\v<g.length) (fun v hv c hc=>⟨cl v hv.2 (.inr hv.1) c hc,ov hw hc⟩) ⟨cl i0 hi (.inl rfl) c h1,ov hw h1⟩ h2
 exact (h.mrk i0 this.1).2 rfl
theorem aaD {g:List (List Nat)} {i0:Nat} {w:fH} (h:PI g i0 w) (hk:0<w.1) {l:List Int} (hl: ∀x:Int,x∈l↔0<=x/\Edg g (ah w.2.2 (w.1-1)).toNat x.toNat) (hm:(i0:Int)∈l):Rp g i0 i0:=by
 obtain ⟨s,hs1,_,hs3⟩:=h.pl (w.1-1) (by omega)
 have e:=((hl _).1 hm).2
 rw [hs1,Int.toNat_natCast,Int.toNat_natCast] at e
 rcases hs3 with rfl|h3
 ·exact .one e
 ·exact .step h3 e
theorem search {g:List (List Nat)} (hw:Wf g) {i0:Nat} (hi:i0<g.length) {T:fH->List Int} {it:Nat->fH} {t:fH->Bool} (h0:it 0=(1,replicate g.length false,[(i0:Int)])) (hs: ∀k,PI g i0 (it k)->0<(it k).1->it (k+1)=(T (it k)).foldl gb ((it k).1-1,(it k).2.1,(it k).2.2))
  (hT: ∀w,PI g i0 w->0<w.1-> ∀x:Int,x∈T w↔0<=x/\Edg g (ah w.2.2 (w.1-1)).toNat x.toNat) (ht: ∀w,PI g i0 w->(t w=true↔(0<w.1->(i0:Int)∈T w))) (ex: ∃k,t (it k)=true):0<(it (dX t it)).1↔Rp g i0 i0:=by
 obtain ⟨hend,hlt⟩:=iA ex
 have nt: ∀k,PI g i0 (it k)->t (it k)=false->0<(it k).1/\(i0:Int)∉T (it k):=fun k h1 h2=>by
  have h3: ¬(0<(it k).1->(i0:Int)∈T (it k)):=fun h=>by rw [(ht _ h1).2 h] at h2;cases h2
  exact ⟨Decidable.byContradiction fun h=>h3 fun h4=>absurd h4 h,fun h=>h3 fun _=>h⟩
 have inv: ∀k,k<=dX t it->PI g i0 (it k):=fun k=>by
  induction k with
  |zero=>intro _;rw [h0];exact pi_0 hi
  |succ k ih=>
   intro hk
   have h1:=ih (by omega)
   obtain ⟨h2,h3⟩:=nt k h1 (hlt k (by omega))
   rw [hs k h1 h2]
   exact WO hw h1 h2 (hT _ h1 h2) h3
 have hp:=inv _ (Nat.le_refl _)
 constructor
 ·exact fun h=>aaD hp h (hT _ hp h) ((ht _ hp).1 hend h)
 ·exact fun h=>Decidable.byContradiction fun hn=>aaC hw hi hp (by omega) h
noncomputable def gE (n:Net) (emp:List Bool):List (List Nat):=n.aa.map fun s=>(s.aj.flatMap (tgE n emp)).map Int.toNat
theorem Dd (n:Net) (emp:List Bool):(gE n emp).length=n.aa.length:=List.length_map _
theorem UB (n:Net):ia n=gE n (r24 n):=by
 unfold ia CZ gE
 rw [List.map_map];rfl
theorem UC {n:Net} {emp:List Bool} {a c:Nat}:Edg (gE n emp) a c↔ ∃x∈(ah n.aa a).aj.flatMap (tgE n emp),x.toNat=c:=by
 have e:ah (gE n emp) a=((ah n.aa a).aj.flatMap (tgE n emp)).map Int.toNat:=by
  unfold gE ah
  rw [List.getElem?_map]
  cases n.aa[a]? <;>rfl
 unfold Edg
 rw [e,List.mem_map]
theorem HI {n:Net} (hn:bw n) (emp:List Bool) {a:Nat} (_:a<n.aa.length): ∀x∈(ah n.aa a).aj.flatMap (tgE n emp),0<=x/\x<(n.aa.length:Int):=fun x hx=>by
 obtain ⟨e,he,hx⟩:=List.mem_flatMap.1 hx
 exact yF hn emp (s:=((a:Nat):Int)) he x hx
theorem gE_wf {n:Net} (hn:bw n) (emp:List Bool):Wf (gE n emp):=fun R hR c hc=>by
 obtain ⟨a,ha,rfl⟩:=ck hR
 rw [Dd] at ha⊢
 obtain ⟨x,hx,rfl⟩:=UC.1 (show Edg (gE n emp) a c from hc)
 have:=HI hn emp ha x hx
 omega
theorem gE_T {n:Net} (hn:bw n) (emp:List Bool) {a:Nat} (ha:a<n.aa.length) (x:Int):x∈(ah n.aa a).aj.flatMap (tgE n emp)↔0<=x/\Edg (gE n emp) a x.toNat:=by
 rw [UC]
 constructor
 ·intro h;exact ⟨(HI hn emp ha x h).1,x,h,rfl⟩
 ·rintro ⟨h0,y,hy,e⟩
  have:=(HI hn emp ha y hy).1
  obtain rfl:y=x:=by omega
  exact hy
theorem wg {α:Type} [Inhabited α] (l:List α) (f:α->List Int) (y:fH) {ac:Nat->fH} (h0:ac 0=y) (hs: ∀i,i<l.length->ac (i+1)=(f (ah l i)).foldl gb (ac i)):ac l.length=(l.flatMap f).foldl gb y:=by
 have key: ∀i,i<=l.length->ac i=((range i).flatMap fun k=>f (ah l k)).foldl gb y:=fun i=>by
  induction i with
  |zero=>intro _;rw [h0];rfl
  |succ i ih=>
   intro hi
   rw [hs i (by omega),ih (by omega),List.range_succ,List.flatMap_append,List.foldl_append]
   simp
 rw [key _ (Nat.le_refl _),kP]
theorem JQ (n:Net) (emp:List Bool) (i0:Nat) (w:fH) (i:Nat):lD n emp i0 w i=true↔(i0:Int)∈tgE n emp (ah (aB n.aa (ah w.2.2 (w.1-1))).aj i):=by
 unfold lD tgE
 generalize ah (aB n.aa (ah w.2.2 (w.1-1))).aj i=e
 have key: ∀a b:Int,(a==b)=true↔b=a:=fun a b=>by rw [beq_iff_eq];exact eq_comm
 cases h1:e.op==1 with
 |true=>simp only [Bool.not_true,Bool.false_and,cond_true,List.not_mem_nil,Bool.false_eq_true]
 |false=>
  cases h2:e.op==2 with
  |true=>
   cases h3:aB emp e.n with
   |true=>simp only [Bool.not_false,Bool.not_true,Bool.true_and,cond_true,cond_false,Bool.or_eq_true,key,List.mem_cons,List.not_mem_nil,or_false]
   |false=>simp only [Bool.not_false,Bool.not_true,Bool.true_and,Bool.false_and,cond_true,cond_false,Bool.or_false,key,List.mem_cons,List.not_mem_nil,or_false]
  |false=>simp only [Bool.not_false,Bool.true_and,cond_false,key,List.mem_cons,List.not_mem_nil,or_false]
theorem aaE {n:Net} (hn:bw n) (emp:List Bool):r35 n emp=gM (gE n emp):=by
 have one: ∀i0,i0<n.aa.length->(mX n emp i0=true↔Rp (gE n emp) i0 i0):=fun i0 hi=>by
  have hs:=search (g:=gE n emp) (gE_wf hn emp) (i0:=i0) (by rw [Dd];exact hi) (T:=fun w=>(aB n.aa (ah w.2.2 (w.1-1))).aj.flatMap (tgE n emp)) (it:=dt n emp i0) (t:=iX n emp i0) (by
    show (1,replicate (length (map ak n.aa)) false,[(i0:Int)])=_
    rw [Dd,List.length_map]) (fun k _ _=>by
    exact wg (aB n.aa (ah (dt n emp i0 k).2.2 ((dt n emp i0 k).1-1))).aj (tgE n emp) _ (ac:=aC n emp i0 (dt n emp i0 k)) rfl fun i _=>Hc n emp i0 _ i _) (fun w hp hk x=>by
    obtain ⟨s,h1,h2,_⟩:=hp.pl (w.1-1) (by omega)
    rw [Dd] at h2
    rw [h1,Int.toNat_natCast]
    exact gE_T hn emp h2 x) (fun w hp=>by
    unfold iX
    by_cases hk:0<w.1
    ·rw [show decide (((w.1:Nat):Int)>0)=true from decide_eq_true (by omega),cond_true]
     unfold yG
     rw [ey]
     constructor
     ·rintro ⟨i,h1,h2⟩ _
      exact List.mem_flatMap.2 ⟨_,ay h1,(JQ n emp i0 w i).1 h2⟩
     ·intro h
      obtain ⟨e,he,hx⟩:=List.mem_flatMap.1 (h hk)
      obtain ⟨i,h1,rfl⟩:=ck he
      exact ⟨i,h1,(JQ n emp i0 w i).2 hx⟩
    ·rw [show decide (((w.1:Nat):Int)>0)=false from decide_eq_false (by omega),cond_false]
     exact ⟨fun _ h=>absurd h hk,fun _=>rfl⟩) (SS hn emp i0 hi).1
  rw [<-hs]
  show decide ((((tD n emp i0).1:Nat):Int)>0)=true↔0<(tD n emp i0).1
  rw [decide_eq_true_eq]
  omega
 show dh n.aa.length (mX n emp)=gM (gE n emp)
 have h:dh n.aa.length (mX n emp)=true↔gM (gE n emp)=true:=by
  rw [ey]
  unfold gM
  rw [aM]
  constructor
  ·rintro ⟨i,hi,h⟩;exact ⟨i,(one i hi).1 h⟩
  ·rintro ⟨i,h⟩
   have hi:i<n.aa.length:=by
    rw [<-Dd n emp]
    rcases h.head with h6|⟨c,h6,_⟩<;>exact Dc h6
   exact ⟨i,hi,(one i hi).2 h⟩
 cases e1:dh n.aa.length (mX n emp) with
 |true=>exact (h.1 e1).symm
 |false=>
  cases e2:gM (gE n emp) with
  |true=>rw [h.2 e2] at e1;cases e1
  |false=>rfl
theorem WQ {n:Net} (hn:bw n) (h:r24 n=r25 n):gM (ia n)=r35 n (r25 n):=by rw [UB,h,aaE hn]
noncomputable def clR (n:Net) (r:Int):List Int:=n.aa.flatMap fun s=>bif s.aK !=r then [] else s.aj.flatMap tgC
noncomputable def gK (n:Net):List (List Nat):=(range n.rules.length).map fun r=>(clR n ((r:Nat):Int)).map Int.toNat
theorem De (n:Net):(gK n).length=n.rules.length:=by simp [gK]
theorem Nq {e:Edge} {x:Int}:x∈tgC e↔e.op=2/\x=e.n:=by
 unfold tgC
 cases h:e.op !=2 with
 |true=>simp only [cond_true,List.not_mem_nil,false_iff,not_and];intro h2;simp [h2] at h
 |false=>simp only [cond_false,List.mem_singleton];exact ⟨fun h3=>⟨by simpa using h,h3⟩,fun h3=>h3.2⟩
theorem py {n:Net} {r x:Int}:x∈clR n r↔ ∃s∈n.aa,s.aK=r/\ ∃e∈s.aj,e.op=2/\x=e.n:=by
 unfold clR
 rw [List.mem_flatMap]
 constructor
 ·rintro ⟨s,hs,h⟩
  cases h1:s.aK !=r with
  |true=>rw [h1] at h;simp at h
  |false=>
   rw [h1,cond_false] at h
   obtain ⟨e,he,h2⟩:=List.mem_flatMap.1 h
   exact ⟨s,hs,by simpa using h1,e,he,Nq.1 h2⟩
 ·rintro ⟨s,hs,h1,e,he,h2⟩
  refine ⟨s,hs,?_⟩
  rw [show (s.aK !=r)=false by simp [h1],cond_false]
  exact List.mem_flatMap.2 ⟨e,he,Nq.2 h2⟩
theorem HJ {n:Net} (hn:bw n) {r x:Int} (h:x∈clR n r):0<=x/\x<(n.rules.length:Int):=by
 obtain ⟨s,hs,_,e,he,h1,rfl⟩:=py.1 h
 exact hn.call s hs e he h1
theorem Df {n:Net} {a c:Nat} (ha:a<n.rules.length):Edg (gK n) a c↔ ∃x∈clR n ((a:Nat):Int),x.toNat=c:=by
 have e:ah (gK n) a=(clR n ((a:Nat):Int)).map Int.toNat:=by
  unfold gK ah
  rw [List.getElem?_map,List.getElem?_range ha];rfl
 unfold Edg
 rw [e,List.mem_map]
theorem gK_wf {n:Net} (hn:bw n):Wf (gK n):=fun R hR c hc=>by
 obtain ⟨a,ha,rfl⟩:=ck hR
 rw [De] at ha⊢
 obtain ⟨x,hx,rfl⟩:=(Df ha).1 (show Edg (gK n) a c from hc)
 have:=HJ hn hx
 omega
theorem gK_T {n:Net} (hn:bw n) {a:Nat} (ha:a<n.rules.length) (x:Int):x∈clR n ((a:Nat):Int)↔0<=x/\Edg (gK n) a x.toNat:=by
 rw [Df ha]
 constructor
 ·intro h;exact ⟨(HJ hn h).1,x,h,rfl⟩
 ·rintro ⟨h0,y,hy,e⟩
  have:=(HJ hn hy).1
  obtain rfl:y=x:=by omega
  exact hy
theorem Pn (n:Net) (i0:Nat) (w:fH) (i:Nat) (y:fH):bz n i0 w i y (ah n.aa i).aj.length=((ah n.aa i).aj.flatMap tgC).foldl gb y:=
 wg (ah n.aa i).aj tgC y (ac:=bz n i0 w i y) rfl fun k _=>Fa n i0 w i y k _
theorem Po (n:Net) (i0:Nat) (w:fH) (i:Nat) (y:fH):Cp n i0 w i y=((fun s:State=>bif s.aK !=ah w.2.2 (w.1-1) then [] else s.aj.flatMap tgC) (ah n.aa i)).foldl gb y:=by
 unfold Cp
 simp only [Pn]
 cases (ah n.aa i).aK !=ah w.2.2 (w.1-1)<;>rfl
theorem JR (n:Net) (i0:Nat) (w:fH) (i:Nat):mZ n i0 w i=true↔(ah n.aa i).aK=ah w.2.2 (w.1-1)/\ ∃e∈(ah n.aa i).aj,e.op=2/\(i0:Int)=e.n:=by
 unfold mZ yH
 rw [Bool.and_eq_true,ey]
 refine and_congr (by simp) ?_
 constructor
 ·rintro ⟨k,hk,h⟩
  unfold oD at h
  simp only [Bool.and_eq_true,Bool.not_eq_true',bne_eq_false_iff_eq,beq_iff_eq] at h
  exact ⟨_,ay hk,h.1,h.2.symm⟩
 ·rintro ⟨e,he,h1,h2⟩
  obtain ⟨k,hk,rfl⟩:=ck he
  refine ⟨k,hk,?_⟩
  unfold oD
  simp only [Bool.and_eq_true,Bool.not_eq_true',bne_eq_false_iff_eq,beq_iff_eq]
  exact ⟨h1,h2.symm⟩
theorem X2 {n:Net} (hn:bw n) {i0:Nat} (hi:i0<n.rules.length):tE n i0 (qc n i0)=true↔Rp (gK n) i0 i0:=by
 have hs:=search (g:=gK n) (gK_wf hn) (i0:=i0) (by rw [De];exact hi) (T:=fun w=>clR n (ah w.2.2 (w.1-1))) (it:=dz n i0) (t:=iY n i0) (by
   show (1,replicate (length (map aD n.rules)) false,[(i0:Int)])=_
   rw [De,List.length_map]) (fun k _ _=>by
   exact wg n.aa (fun s:State=>bif s.aK !=ah (dz n i0 k).2.2 ((dz n i0 k).1-1) then [] else s.aj.flatMap tgC) _ (ac:=b0 n i0 (dz n i0 k)) rfl fun i _=>Po n i0 _ i _) (fun w hp hk x=>by
   obtain ⟨s,h1,h2,_⟩:=hp.pl (w.1-1) (by omega)
   rw [De] at h2
   simp only [h1,Int.toNat_natCast]
   exact gK_T hn h2 x) (fun w hp=>by
   unfold iY
   by_cases hk:0<w.1
   ·rw [show decide (((w.1:Nat):Int)>0)=true from decide_eq_true (by omega),cond_true]
    unfold yI
    rw [ey]
    constructor
    ·rintro ⟨i,h1,h2⟩ _
     obtain ⟨h3,e,he,h4⟩:=(JR n i0 w i).1 h2
     exact py.2 ⟨_,ay h1,h3,e,he,h4⟩
    ·intro h
     obtain ⟨s,hs,h3,h4⟩:=py.1 (h hk)
     obtain ⟨i,h1,rfl⟩:=ck hs
     exact ⟨i,h1,(JR n i0 w i).2 ⟨h3,h4⟩⟩
   ·rw [show decide (((w.1:Nat):Int)>0)=false from decide_eq_false (by omega),cond_false]
    exact ⟨fun _ h=>absurd h hk,fun _=>rfl⟩) (S8 hn i0 hi).1
 rw [<-hs]
 show decide ((((qc n i0).1:Nat):Int)>0)=true↔0<(qc n i0).1
 rw [decide_eq_true_eq]
 omega
def X3 (n:Net):Prop:= ∀s∈n.aa,∀e∈s.aj,e.op=2->(aB n.rules e.n).bP=(aB n.rules s.aK).bP
theorem Pp {n:Net} (hr: ∀s∈n.aa,0<=s.aK/\s.aK<(n.rules.length:Int)) {a c:Nat}:Edg (fq n) a c↔ ∃s∈n.aa,s.aK.toNat=a/\ ∃e∈s.aj,e.op=2/\(aB n.rules e.n).bP=true/\e.n.toNat=c:=by
 have e:ah (fq n) a=(ah (qf n) a).map Int.toNat:=by
  unfold fq ah
  rw [List.getElem?_map]
  cases (qf n)[a]? <;>rfl
 have ht: ∀(x:Int) (d:Edge),x∈tgL n d↔d.op=2/\(aB n.rules d.n).bP=true/\x=d.n:=fun x d=>by
  unfold tgL
  cases h1:d.op==2 with
  |true=>
   have h1:=eq_of_beq h1
   cases h2:(aB n.rules d.n).bP<;>simp [h1]
  |false=>
   have h1:d.op≠2:=by simpa using h1
   simp [h1]
 unfold Edg
 rw [e,List.mem_map]
 constructor
 ·rintro ⟨x,hx,rfl⟩
  obtain ⟨s,hs,h1,d,hd,h2⟩:=(px hr a x).1 hx
  obtain ⟨h3,h4,rfl⟩:=(ht _ _).1 h2
  exact ⟨s,hs,h1,d,hd,h3,h4,rfl⟩
 ·rintro ⟨s,hs,h1,d,hd,h3,h4,rfl⟩
  exact ⟨d.n,(px hr a _).2 ⟨s,hs,h1,d,hd,(ht _ _).2 ⟨h3,h4,rfl⟩⟩,rfl⟩
theorem WR {n:Net} (hn:bw n) (hr: ∀s∈n.aa,0<=s.aK/\s.aK<(n.rules.length:Int)) (hx:X3 n):gM (fq n)=r36 n:=by
 have hed: ∀a c,Edg (fq n) a c↔a<n.rules.length/\(ah n.rules a).bP=true/\(ah n.rules c).bP=true/\Edg (gK n) a c:=fun a c=>by
  rw [Pp hr]
  constructor
  ·rintro ⟨s,hs,h1,d,hd,h3,h4,rfl⟩
   have hrs:=hr s hs
   have hlx:=hx s hs d hd h3
   have ha:a<n.rules.length:=by omega
   have e1:aB n.rules s.aK=ah n.rules a:=by rw [<-h1];rfl
   refine ⟨ha,by rw [<-e1,<-hlx];exact h4,h4,(Df ha).2 ⟨d.n,py.2 ⟨s,hs,by omega,d,hd,h3,rfl⟩,rfl⟩⟩
  ·rintro ⟨ha,h1,h2,h3⟩
   obtain ⟨x,hx2,rfl⟩:=(Df ha).1 h3
   obtain ⟨s,hs,h4,d,hd,h5,rfl⟩:=py.1 hx2
   exact ⟨s,hs,by omega,d,hd,h5,h2,rfl⟩
 have hgo: ∀a c,Rp (gK n) a c->a<n.rules.length->(ah n.rules a).bP=true->Rp (fq n) a c/\(ah n.rules c).bP=true:=fun a c h=>by
  have one: ∀a c,a<n.rules.length->(ah n.rules a).bP=true->Edg (gK n) a c->Edg (fq n) a c/\(ah n.rules c).bP=true:=fun a c ha hl e=>by
   obtain ⟨x,hx2,rfl⟩:=(Df ha).1 e
   obtain ⟨s,hs,h4,d,hd,h5,rfl⟩:=py.1 hx2
   have hlx:=hx s hs d hd h5
   rw [h4] at hlx
   have h6:(ah n.rules d.n.toNat).bP=true:=hlx.trans hl
   exact ⟨(hed _ _).2 ⟨ha,hl,h6,e⟩,h6⟩
  induction h with
  |one e=>intro ha hl;obtain ⟨h1,h2⟩:=one _ _ ha hl e;exact ⟨.one h1,h2⟩
  |step _ e ih=>
   intro ha hl
   obtain ⟨h1,h2⟩:=ih ha hl
   have hb:=Dc e
   rw [De] at hb
   obtain ⟨h3,h4⟩:=one _ _ hb h2 e
   exact ⟨.step h1 h3,h4⟩
 have h:dh n.rules.length (kz n)=true↔gM (fq n)=true:=by
  rw [ey]
  unfold gM
  rw [aM]
  constructor
  ·rintro ⟨i,hi,h⟩
   unfold kz at h
   simp only [Bool.and_eq_true,Bool.not_not] at h
   exact ⟨i,(hgo i i ((X2 hn hi).1 h.2) hi h.1).1⟩
  ·rintro ⟨i,h⟩
   have h1:i<n.rules.length/\(ah n.rules i).bP=true:=by
    rcases h.head with h6|⟨c,h6,_⟩<;>exact ⟨((hed _ _).1 h6).1,((hed _ _).1 h6).2.1⟩
   refine ⟨i,h1.1,?_⟩
   unfold kz
   rw [Bool.not_not,h1.2,Bool.true_and]
   exact (X2 hn h1.1).2 (h.mono fun a b e=>((hed a b).1 e).2.2.2)
 show gM (fq n)=dh n.rules.length (kz n)
 cases e1:dh n.rules.length (kz n) with
 |true=>exact h.1 e1
 |false=>
  cases e2:gM (fq n) with
  |true=>rw [h.2 e2] at e1;cases e1
  |false=>rfl
theorem mN (n:Net) (s r:Int):r62 n s r=r67 n s r:=rfl
theorem oU (g:G):r81 g=r93 g:=rfl
def yc (x:Int):Prop:= -2147483648<=x/\x<=2147483647
theorem aaF {s:List (Int×Int)} (h: ∀r∈s,yc r.1/\yc r.2) {i:Nat} (hi:i<s.length):nT s i=nU s i:=by
 unfold nT nU
 have h1:=(h _ (ay hi)).1
 have h2:=(h _ (ay (show i-1<s.length by omega))).2
 unfold yc at h1 h2
 have e1:IntKind.wrap IntKind.i64 (ah s i).1=(ah s i).1:=wrap_i64 (by omega) (by omega)
 have e2:IntKind.wrap IntKind.i64 (ah s (i-1)).2=(ah s (i-1)).2:=wrap_i64 (by omega) (by omega)
 have e3:IntKind.wrap IntKind.i64 ((ah s (i-1)).2+1)=(ah s (i-1)).2+1:=wrap_i64 (by omega) (by omega)
 have e4:IntKind.wrap IntKind.i64 ((ah s (i-1)).2+2)=(ah s (i-1)).2+2:=wrap_i64 (by omega) (by omega)
 rw [e1,e2,e3,e4]
 congr 2
 exact decide_eq_decide.2 (by omega)
theorem aaG {s:List (Int×Int)} (h: ∀r∈s,yc r.1/\yc r.2):r64 s=r91 s:=by
 have e:yy s=sJ s:=by
  have: ∀i,i<s.length->nT s i=nU s i:=fun i hi=>aaF h hi
  cases e2:sJ s with
  |true=>
   obtain ⟨i,hi,ht⟩:=ey.1 e2
   exact ey.2 ⟨i,hi,(this i hi).trans ht⟩
  |false=>exact bL.2 fun i hi=>(this i hi).trans (bL.1 e2 i hi)
 unfold r64 r91
 rw [e]
theorem lexOf {n:Net} (h3:r33 n=true):X3 n:=fun s hs e he h=>by
 obtain ⟨i,hi,rfl⟩:=ck hs
 obtain ⟨k,hk,rfl⟩:=ck he
 have h68:=(vI h3 hi).2 k hk
 unfold r68 at h68
 rw [h] at h68
 simp only [show ((2:Int) !=3)=true from rfl,show ((2:Int)==1)=false from rfl,show ((2:Int)==2)=true from rfl,cond_true,cond_false,Bool.and_eq_true,Bool.not_eq_true',Bool.not_eq_false',beq_iff_eq] at h68
 exact h68.2.2.2.2.2.2.2.2.1
def X27 (n:Net) (r:cm) (i:Nat):Bool:= !(r67 n r.start i)||(!(r67 n r.stop i)||((r.start==r.stop)||(decide ((length (map bc (aB n.aa r.stop).aj):Int)>0)||((!r.bP&&(r.eK||(r.lazy||r.mode !=0)))||((r.bP&&r.left)||(decide (r.mode<0)||(decide (r.mode>=(length (map bx n.cH):Int))||(bif r.bP&& !r.eK then (decide (r.type<1)||decide (r.type>(length (map bx n.types):Int))) else r.type !=0))))))))
theorem L7 (n:Net) (i:Nat):jS n i=(X27 n (ah n.rules i) i||((ah n.rules i).bP&&(!(ah n.rules i).eK&&dec ((ah n.rules i).type∈bI n i)))):=by
 unfold jS X27
 simp only [mN]
 generalize ah n.rules i=r
 generalize dec (r.type∈bI n i)=a
 cases r.bP<;>cases r.eK<;>simp only [Bool.not_true,Bool.not_false,cond_true,cond_false,Bool.true_and,Bool.false_and,Bool.true_or,Bool.false_or,Bool.or_true,Bool.or_false,Bool.and_true,Bool.and_false,Bool.or_assoc]
theorem UD (n:Net) (i:Nat):jR n i=(X27 n (ah n.rules i) i||((ah n.rules i).bP&&(!(ah n.rules i).eK&&mw n i))):=by
 unfold jR X27
 generalize mw n i=a
 generalize ah n.rules i=r
 cases r.bP<;>cases r.eK<;>simp only [Bool.not_true,Bool.not_false,cond_true,cond_false,Bool.true_and,Bool.false_and,Bool.true_or,Bool.false_or,Bool.or_true,Bool.or_false,Bool.and_true,Bool.and_false,Bool.or_assoc]
theorem JS (n:Net) (i:Nat) (x:Int):x∈bI n i↔ ∃j,j<i/\(ah n.rules j).bP=true/\(ah n.rules j).eK=false/\x=(ah n.rules j).type:=by
 induction i with
 |zero=>exact ⟨fun h=>absurd (show x∈([]:List Int) from h) (by simp),fun ⟨j,hj,_⟩=>by omega⟩
 |succ i ih=>
  show x∈GW n i (bI n i)↔_
  have e:x∈GW n i (bI n i)↔x∈bI n i\/((ah n.rules i).bP=true/\(ah n.rules i).eK=false/\x=(ah n.rules i).type):=by
   unfold GW
   cases (ah n.rules i).bP<;>cases (ah n.rules i).eK<;>simp
  rw [e,ih]
  constructor
  ·rintro (⟨j,h1,h2⟩|h)
   ·exact ⟨j,by omega,h2⟩
   ·exact ⟨i,by omega,h⟩
  ·rintro ⟨j,h1,h2⟩
   by_cases hj:j=i
   ·subst hj;exact .inr h2
   ·exact .inl ⟨j,by omega,h2⟩
theorem aaH (n:Net):r27 n=r32 n:=by
 have h:(∀i,i<n.rules.length->jS n i=false)↔ ∀i,i<n.rules.length->jR n i=false:=by
  constructor
  ·intro h i hi
   have h1:=h i hi
   rw [L7] at h1
   rw [UD]
   simp only [Bool.or_eq_false_iff] at h1⊢
   refine ⟨h1.1,?_⟩
   cases hl:(ah n.rules i).bP with
   |false=>rfl
   |true=>
    cases hf:(ah n.rules i).eK with
    |true=>rfl
    |false=>
     rw [Bool.not_false,Bool.true_and,Bool.true_and]
     refine bL.2 fun j hj=> ?_
     unfold pU
     refine beq_eq_false_iff_ne.2 fun e=> ?_
     have hx:=h1.1
     unfold X27 at hx
     rw [hl,hf] at hx
     simp only [Bool.not_false,Bool.and_self,cond_true,Bool.or_eq_false_iff,decide_eq_false_iff_not] at hx
     have hge:1<=(ah n.rules i).type:=by have:=hx.2.2.2.2.2.2.2.2.1;omega
     have hj1:=h j (by omega)
     rw [L7] at hj1
     simp only [Bool.or_eq_false_iff] at hj1
     cases hlj:((ah n.rules j).bP&& !(ah n.rules j).eK) with
     |false=>
      have hy:=hj1.1
      unfold X27 at hy
      rw [hlj] at hy
      simp only [cond_false,Bool.or_eq_false_iff,bne_eq_false_iff_eq] at hy
      have:=hy.2.2.2.2.2.2.2.2
      omega
     |true=>
      simp only [Bool.and_eq_true,Bool.not_eq_true'] at hlj
      have hm:=h1.2
      rw [hl,hf,Bool.not_false,Bool.true_and,Bool.true_and] at hm
      have:dec ((ah n.rules i).type∈bI n i)=true:=aM.2 ((JS n i _).2 ⟨j,hj,hlj.1,hlj.2,e.symm⟩)
      rw [this] at hm;cases hm
  ·intro h i hi
   have h1:=h i hi
   rw [UD] at h1
   rw [L7]
   simp only [Bool.or_eq_false_iff] at h1⊢
   refine ⟨h1.1,?_⟩
   cases hl:(ah n.rules i).bP with
   |false=>rfl
   |true=>
    cases hf:(ah n.rules i).eK with
    |true=>rfl
    |false=>
     rw [Bool.not_false,Bool.true_and,Bool.true_and]
     have hm:=h1.2
     rw [hl,hf,Bool.not_false,Bool.true_and,Bool.true_and] at hm
     cases hd:dec ((ah n.rules i).type∈bI n i) with
     |false=>rfl
     |true=>
      obtain ⟨j,hj,_,_,e⟩:=(JS n i _).1 (aM.1 hd)
      have:=bL.1 hm j hj
      unfold pU at this
      rw [e] at this
      simp at this
 show (!dh n.rules.length (jS n))= !dh n.rules.length (jR n)
 congr 1
 cases e1:dh n.rules.length (jR n) with
 |false=>exact bL.2 (h.2 (bL.1 e1))
 |true=>
  cases e2:dh n.rules.length (jS n) with
  |true=>rfl
  |false=>rw [bL.2 (h.1 (bL.1 e2))] at e1;cases e1
theorem beqS {a b:ByteArray}:cP (Array.toList (ByteArray.data a)) (Array.toList (ByteArray.data b))=true↔a=b:=by
 rw [yj,beq_iff_eq]
 constructor
 ·intro h
  cases a;cases b
  exact congrArg ByteArray.mk (Array.toList_inj.1 h)
 ·intro h;rw [h]
theorem beqE {a:ByteArray}:cP (Array.toList (ByteArray.data a)) []=true↔a.size=0:=by
 rw [yj,beq_iff_eq]
 constructor
 ·intro h
  have:=congrArg length h
  simpa using this
 ·intro h
  refine List.eq_nil_of_length_eq_zero ?_
  simpa using h
def NmOk (l:List ByteArray):Prop:= ∀i,i<l.length->(0<(ah l i).size/\(ah l i).size<=40)/\ ∀j,j<i->ah l j≠ah l i
theorem UE (l:List ByteArray) (i:Nat) (x:ByteArray):x∈gh l i↔ ∃j,j<i/\x=ah l j:=by
 induction i with
 |zero=>exact ⟨fun h=>absurd (show x∈([]:List ByteArray) from h) (by simp),fun ⟨j,hj,_⟩=>by omega⟩
 |succ i ih=>
  show x∈K9 l i (gh l i)↔_
  unfold K9
  rw [List.mem_append,ih,List.mem_singleton]
  constructor
  ·rintro (⟨j,h1,h2⟩|h)
   ·exact ⟨j,by omega,h2⟩
   ·exact ⟨i,by omega,h⟩
  ·rintro ⟨j,h1,h2⟩
   by_cases hj:j=i
   ·subst hj;exact .inr h2
   ·exact .inl ⟨j,by omega,h2⟩
theorem Ns (l:List ByteArray):r60 l=true↔NmOk l:=by
 unfold r60 yB
 rw [Bool.not_eq_true',bL]
 refine forall_congr' fun i=>imp_congr_right fun hi=> ?_
 unfold sZ
 simp only [Bool.or_eq_false_iff,decide_eq_false_iff_not]
 have e1:cP (Array.toList (ByteArray.data (ah l i))) []=false↔0<(ah l i).size:=by
  rw [<-Bool.not_eq_true,beqE];omega
 have e2:dec (ah l i∈gh l i)=false↔ ∀j,j<i->ah l j≠ah l i:=by
  rw [<-Bool.not_eq_true,aM,UE]
  exact ⟨fun h j hj e=>h ⟨j,hj,e.symm⟩,fun h ⟨j,hj,e⟩=>h j hj e.symm⟩
 rw [e1,e2]
 constructor
 ·rintro ⟨h1,h2,h3⟩;exact ⟨⟨h1,by omega⟩,h3⟩
 ·rintro ⟨⟨h1,h2⟩,h3⟩;exact ⟨h1,by omega,h3⟩
theorem FC (l:List ByteArray) (f:Bool) (i:Nat):mv l f i=false↔ ∀j,j<i->ah l j≠ah l i:=by
 unfold mv
 rw [bL]
 refine forall_congr' fun j=>imp_congr_right fun _=> ?_
 unfold sL
 rw [<-Bool.not_eq_true,beqS]
theorem WS (l:List ByteArray):r66 l false=true↔NmOk l:=by
 unfold r66 sM
 rw [Bool.not_eq_true',bL]
 refine forall_congr' fun i=>imp_congr_right fun hi=> ?_
 unfold lA
 simp only [cond_false,Bool.or_eq_false_iff,decide_eq_false_iff_not,FC]
 constructor
 ·rintro ⟨h1,h2,h3⟩;exact ⟨⟨by omega,by omega⟩,h3⟩
 ·rintro ⟨⟨h1,h2⟩,h3⟩;exact ⟨by omega,by omega,h3⟩
theorem UF (l:List ByteArray):r60 l=r66 l false:=by
 have h:r60 l=true↔r66 l false=true:=(Ns l).trans (WS l).symm
 cases e1:r66 l false with
 |true=>exact h.2 e1
 |false=>
  cases e2:r60 l with
  |true=>rw [h.1 e2] at e1;cases e1
  |false=>rfl
theorem pz (l:List ByteArray) (i:Nat):ah (List.drop 1 l) i=ah l (i+1):=by
 unfold ah
 rw [List.getElem?_drop,Nat.add_comm]
theorem UG (l:List ByteArray):r66 l true=true↔(0<l.length->(ah l 0).size=0)/\NmOk (List.drop 1 l):=by
 unfold r66 sM
 rw [Bool.not_eq_true',bL]
 have e0:lA l true 0=false↔(ah l 0).size=0:=by
  unfold lA
  simp only [cond_true,show ((((0:Nat):Int))==0)=true from rfl,Bool.not_eq_false',beqE]
 have es: ∀i,lA l true (i+1)=false↔(0<(ah l (i+1)).size/\(ah l (i+1)).size<=40)/\ ∀j,j<i+1->ah l j≠ah l (i+1):=fun i=>by
  unfold lA
  simp only [cond_true,show ((((i+1:Nat):Int))==0)=false from beq_eq_false_iff_ne.2 (by omega),cond_false,Bool.or_eq_false_iff,decide_eq_false_iff_not,FC]
  constructor
  ·rintro ⟨h1,h2,h3⟩;exact ⟨⟨by omega,by omega⟩,h3⟩
  ·rintro ⟨⟨h1,h2⟩,h3⟩;exact ⟨by omega,by omega,h3⟩
 constructor
 ·intro h
  refine ⟨fun hl=>e0.1 (h 0 hl),fun i hi=> ?_⟩
  rw [List.length_drop] at hi
  obtain ⟨h1,h2⟩:=(es i).1 (h (i+1) (by omega))
  rw [pz]
  exact ⟨h1,fun j hj=>by rw [pz];exact h2 (j+1) (by omega)⟩
 ·rintro ⟨h0,h⟩ i hi
  cases i with
  |zero=>exact e0.2 (h0 hi)
  |succ i=>
   obtain ⟨h1,h2⟩:=h i (by rw [List.length_drop];omega)
   rw [pz] at h1 h2
   refine (es i).2 ⟨h1,fun j hj=> ?_⟩
   cases j with
   |zero=>
    intro e
    have:=h0 (by omega)
    rw [e] at this
    omega
   |succ j=>
    have:=h2 j (by omega)
    rw [pz] at this
    exact this
theorem UH (l:List ByteArray):r61 l=(!(decide ((length (map bx l):Int)<1))&&(!(decide ((length (map bx l):Int)>20))&&r66 l true)):=by
 have h:r61 l=true↔(!(decide ((length (map bx l):Int)<1))&&(!(decide ((length (map bx l):Int)>20))&&r66 l true))=true:=by
  unfold r61
  simp only [Bool.and_eq_true,decide_eq_true_eq,Bool.not_eq_true',decide_eq_false_iff_not,UG,Ns,beqE]
  rw [List.length_map]
  constructor
  ·rintro ⟨h1,h2,h3,h4⟩;exact ⟨by omega,by omega,fun _=>h3,h4⟩
  ·rintro ⟨h1,h2,h3,h4⟩;exact ⟨by omega,by omega,h3 (by omega),h4⟩
 cases e1:(!(decide ((length (map bx l):Int)<1))&&(!(decide ((length (map bx l):Int)>20))&&r66 l true)) with
 |true=>exact h.2 e1
 |false=>
  cases e2:r61 l with
  |true=>rw [h.1 e2] at e1;cases e1
  |false=>rfl
theorem UI (n:Net):tc n=s8 n:=by
 unfold tc s8
 congr 1
 funext i
 unfold s9 s7
 exact Bool.and_left_comm _ _ _
theorem L8 (x y:Int):decide (x<=y)= !(decide (x>y)):=by
 rw [<-decide_not]
 exact decide_eq_decide.2 (by omega)
theorem UJ (n:Net):r26 n=r31 n:=by
 have h:r26 n=true↔r31 n=true:=by
  unfold r26 r31
  rw [UI,L8,L8,L8,UF,UF,UH,UH]
  simp only [Bool.and_eq_true]
  constructor
  ·rintro ⟨a,b,c,d,e,⟨f1,f2,f3⟩,⟨g1,g2,g3⟩,k⟩
   exact ⟨b,f1,f2,g1,g2,c,d,a,e,f3,g3,k⟩
  ·rintro ⟨b,f1,f2,g1,g2,c,d,a,e,f3,g3,k⟩
   exact ⟨a,b,c,d,e,⟨f1,f2,f3⟩,⟨g1,g2,g3⟩,k⟩
 cases e1:r31 n with
 |true=>exact h.2 e1
 |false=>
  cases e2:r26 n with
  |true=>rw [h.1 e2] at e1;cases e1
  |false=>rfl
theorem UK (n:Net) (i k:Nat) (x:Int):x∈cN n i k↔ ∃j,j<k/\x=(ah (ah n.aa i).aj j).n:=by
 induction k with
 |zero=>exact ⟨fun h=>absurd (show x∈([]:List Int) from h) (by simp),fun ⟨j,hj,_⟩=>by omega⟩
 |succ k ih=>
  show x∈GZ n i k (cN n i k)↔_
  have e:x∈GZ n i k (cN n i k)↔x∈cN n i k\/x=(ah (ah n.aa i).aj k).n:=by
   unfold GZ
   cases hd:dec ((ah (ah n.aa i).aj k).n∈cN n i k) with
   |true=>
    rw [cond_true]
    exact ⟨.inl,fun h=>h.elim id fun e=>e▸aM.1 hd⟩
   |false=>rw [cond_false,List.mem_append,List.mem_singleton]
  rw [e,ih]
  constructor
  ·rintro (⟨j,h1,h2⟩|h)
   ·exact ⟨j,by omega,h2⟩
   ·exact ⟨k,by omega,h⟩
  ·rintro ⟨j,h1,h2⟩
   by_cases hj:j=k
   ·subst hj;exact .inr h2
   ·exact .inl ⟨j,by omega,h2⟩
theorem kD (g:G):r92 g=true↔g.op=0/\g.n=0/\cP (Array.toList (ByteArray.data g.name)) []=true/\((g.kids.length:Nat):Int)=0:=by
 unfold r92
 simp only [Bool.and_eq_true,beq_iff_eq,List.length_map]
theorem JT {p:Prop}:dec p=false↔ ¬p:=by rw [<-Bool.not_eq_true,aM]
theorem ed0 (n:Net) (i k:Nat) (e:Edge) (he:ah (ah n.aa i).aj k=e) (hset:r64 e.set=r91 e.set) (h0:e.op=0):dW n i k=false↔r68 n (ah n.aa i) i e=true/\(e.op=4->e.n∉cN n i k):=by
 unfold dW r68
 rw [he,hset,h0,mN]
 generalize ah n.aa i=s
 simp only [show ((0:Int) !=3)=true from rfl,show ((0:Int)==0)=true from rfl,show ((0:Int)==1)=false from rfl,show ((0:Int)==2)=false from rfl,show ((0:Int)==4)=false from rfl,show ((0:Int)==5)=false from rfl,show ((0:Int)==6)=false from rfl,show ((0:Int)==7)=false from rfl,show decide ((0:Int)<0)=false from rfl,show decide (IntKind.wrap IntKind.i64 0>=8)=false from rfl,cond_true,cond_false,Bool.or_eq_false_iff,Bool.and_eq_true,Bool.not_eq_true',Bool.not_eq_false',Bool.not_not,kD,r77,decide_eq_false_iff_not,List.length_map,bne_eq_false_iff_eq,beq_iff_eq]
 grind
theorem ed1 (n:Net) (i k:Nat) (e:Edge) (he:ah (ah n.aa i).aj k=e) (hset:r64 e.set=r91 e.set) (h0:e.op=1):dW n i k=false↔r68 n (ah n.aa i) i e=true/\(e.op=4->e.n∉cN n i k):=by
 unfold dW r68
 rw [he,hset,h0,mN]
 generalize ah n.aa i=s
 simp only [show ((1:Int) !=3)=true from rfl,show ((1:Int)==0)=false from rfl,show ((1:Int)==1)=true from rfl,show ((1:Int)==2)=false from rfl,show ((1:Int)==4)=false from rfl,show ((1:Int)==5)=false from rfl,show ((1:Int)==6)=false from rfl,show ((1:Int)==7)=false from rfl,show decide ((1:Int)<0)=false from rfl,show decide (IntKind.wrap IntKind.i64 1>=8)=false from rfl,cond_true,cond_false,Bool.or_eq_false_iff,Bool.and_eq_true,Bool.not_eq_true',Bool.not_eq_false',Bool.not_not,kD,r78,decide_eq_false_iff_not,List.length_map,bne_eq_false_iff_eq,beq_iff_eq]
 grind
theorem ed2 (n:Net) (i k:Nat) (e:Edge) (he:ah (ah n.aa i).aj k=e) (hset:r64 e.set=r91 e.set) (h0:e.op=2):dW n i k=false↔r68 n (ah n.aa i) i e=true/\(e.op=4->e.n∉cN n i k):=by
 unfold dW r68
 rw [he,hset,h0,mN]
 generalize ah n.aa i=s
 simp only [show ((2:Int) !=3)=true from rfl,show ((2:Int)==0)=false from rfl,show ((2:Int)==1)=false from rfl,show ((2:Int)==2)=true from rfl,show ((2:Int)==4)=false from rfl,show ((2:Int)==5)=false from rfl,show ((2:Int)==6)=false from rfl,show ((2:Int)==7)=false from rfl,show decide ((2:Int)<0)=false from rfl,show decide (IntKind.wrap IntKind.i64 2>=8)=false from rfl,cond_true,cond_false,Bool.or_eq_false_iff,Bool.and_eq_true,Bool.not_eq_true',Bool.not_eq_false',Bool.not_not,kD,r79,decide_eq_false_iff_not,List.length_map,bne_eq_false_iff_eq,beq_iff_eq]
 grind
theorem ed3 (n:Net) (i k:Nat) (e:Edge) (he:ah (ah n.aa i).aj k=e) (hset:r64 e.set=r91 e.set) (h0:e.op=3):dW n i k=false↔r68 n (ah n.aa i) i e=true/\(e.op=4->e.n∉cN n i k):=by
 unfold dW r68
 rw [he,hset,h0,mN]
 generalize ah n.aa i=s
 simp only [show ((3:Int) !=3)=false from rfl,show ((3:Int)==0)=false from rfl,show ((3:Int)==1)=false from rfl,show ((3:Int)==2)=false from rfl,show ((3:Int)==4)=false from rfl,show ((3:Int)==5)=false from rfl,show ((3:Int)==6)=false from rfl,show ((3:Int)==7)=false from rfl,show decide ((3:Int)<0)=false from rfl,show decide (IntKind.wrap IntKind.i64 3>=8)=false from rfl,cond_false,Bool.or_eq_false_iff,Bool.and_eq_true,Bool.not_eq_true',Bool.not_eq_false',Bool.not_not,r80,oU,List.length_map,bne_eq_false_iff_eq,beq_iff_eq]
 grind
theorem ed4 (n:Net) (i k:Nat) (e:Edge) (he:ah (ah n.aa i).aj k=e) (hset:r64 e.set=r91 e.set) (h0:e.op=4):dW n i k=false↔r68 n (ah n.aa i) i e=true/\(e.op=4->e.n∉cN n i k):=by
 unfold dW r68
 rw [he,hset,h0,mN]
 generalize ah n.aa i=s
 simp only [show ((4:Int) !=3)=true from rfl,show ((4:Int)==0)=false from rfl,show ((4:Int)==1)=false from rfl,show ((4:Int)==2)=false from rfl,show ((4:Int)==4)=true from rfl,show ((4:Int)==5)=false from rfl,show ((4:Int)==6)=false from rfl,show ((4:Int)==7)=false from rfl,show decide ((4:Int)<0)=false from rfl,show decide (IntKind.wrap IntKind.i64 4>=8)=false from rfl,cond_true,cond_false,Bool.or_eq_false_iff,Bool.and_eq_true,Bool.not_eq_true',Bool.not_eq_false',Bool.not_not,JT,kD,r83,decide_eq_false_iff_not,List.length_map,bne_eq_false_iff_eq,beq_iff_eq]
 grind
theorem ed5 (n:Net) (i k:Nat) (e:Edge) (he:ah (ah n.aa i).aj k=e) (hset:r64 e.set=r91 e.set) (h0:e.op=5):dW n i k=false↔r68 n (ah n.aa i) i e=true/\(e.op=4->e.n∉cN n i k):=by
 unfold dW r68
 rw [he,hset,h0,mN]
 generalize ah n.aa i=s
 simp only [show ((5:Int) !=3)=true from rfl,show ((5:Int)==0)=false from rfl,show ((5:Int)==1)=false from rfl,show ((5:Int)==2)=false from rfl,show ((5:Int)==4)=false from rfl,show ((5:Int)==5)=true from rfl,show ((5:Int)==6)=false from rfl,show ((5:Int)==7)=false from rfl,show decide ((5:Int)<0)=false from rfl,show decide (IntKind.wrap IntKind.i64 5>=8)=false from rfl,cond_true,cond_false,Bool.or_eq_false_iff,Bool.and_eq_true,Bool.not_eq_true',Bool.not_eq_false',Bool.not_not,kD,r84,decide_eq_false_iff_not,List.length_map,bne_eq_false_iff_eq,beq_iff_eq]
 grind
theorem ed6 (n:Net) (i k:Nat) (e:Edge) (he:ah (ah n.aa i).aj k=e) (hset:r64 e.set=r91 e.set) (h0:e.op=6):dW n i k=false↔r68 n (ah n.aa i) i e=true/\(e.op=4->e.n∉cN n i k):=by
 unfold dW r68
 rw [he,hset,h0,mN]
 generalize ah n.aa i=s
 simp only [show ((6:Int) !=3)=true from rfl,show ((6:Int)==0)=false from rfl,show ((6:Int)==1)=false from rfl,show ((6:Int)==2)=false from rfl,show ((6:Int)==4)=false from rfl,show ((6:Int)==5)=false from rfl,show ((6:Int)==6)=true from rfl,show ((6:Int)==7)=false from rfl,show decide ((6:Int)<0)=false from rfl,show decide (IntKind.wrap IntKind.i64 6>=8)=false from rfl,cond_true,cond_false,Bool.or_eq_false_iff,Bool.and_eq_true,Bool.not_eq_true',Bool.not_eq_false',Bool.not_not,kD,r85,decide_eq_false_iff_not,List.length_map,bne_eq_false_iff_eq,beq_iff_eq]
 grind
theorem Pq (n:Net) (s:State) (i:Int) (e:Edge):yz n s i e=e.en.any fun a=> !(r89 n a):=
 jx (fun a=> !(r95 n a)) e.en
theorem ed7 (n:Net) (i k:Nat) (e:Edge) (he:ah (ah n.aa i).aj k=e) (hset:r64 e.set=r91 e.set) (h0:e.op=7):dW n i k=false↔r68 n (ah n.aa i) i e=true/\(e.op=4->e.n∉cN n i k):=by
 unfold dW r68
 rw [he,hset,h0,mN,Pq]
 generalize ah n.aa i=s
 simp only [show ((7:Int) !=3)=true from rfl,show ((7:Int)==0)=false from rfl,show ((7:Int)==1)=false from rfl,show ((7:Int)==2)=false from rfl,show ((7:Int)==4)=false from rfl,show ((7:Int)==5)=false from rfl,show ((7:Int)==6)=false from rfl,show ((7:Int)==7)=true from rfl,show decide ((7:Int)<0)=false from rfl,show decide (IntKind.wrap IntKind.i64 7>=8)=false from rfl,cond_true,cond_false,Bool.or_eq_false_iff,Bool.and_eq_true,Bool.not_eq_true',Bool.not_eq_false',Bool.not_not,kD,r86,decide_eq_false_iff_not,List.length_map,bne_eq_false_iff_eq,beq_iff_eq]
 generalize (e.en.any fun a=> !(r89 n a))=b
 grind
theorem edX (n:Net) (i k:Nat) (e:Edge) (he:ah (ah n.aa i).aj k=e) (h8: -128<=e.op/\e.op<=127) (h0:e.op<0\/8<=e.op):dW n i k=false↔r68 n (ah n.aa i) i e=true/\(e.op=4->e.n∉cN n i k):=by
 have hw:IntKind.wrap IntKind.i64 e.op=e.op:=wrap_i64 (by omega) (by omega)
 have ne: ∀j:Int,0<=j->j<8->(e.op==j)=false:=fun j h1 h2=>beq_eq_false_iff_ne.2 (by omega)
 constructor
 ·intro h
  unfold dW at h
  rw [he,hw] at h
  simp only [Bool.or_eq_false_iff,decide_eq_false_iff_not] at h
  have:=h.2.2.1
  have:=h.2.2.2.1
  omega
 ·rintro ⟨h,_⟩
  unfold r68 at h
  simp only [ne 0 (by omega) (by omega),ne 1 (by omega) (by omega),ne 2 (by omega) (by omega),ne 4 (by omega) (by omega),ne 5 (by omega) (by omega),ne 6 (by omega) (by omega),ne 7 (by omega) (by omega),show (e.op !=3)=true from by simp [bne,ne 3 (by omega) (by omega)],cond_true,cond_false,Bool.or_self,Bool.and_false] at h
  cases h
structure lL (n:Net):Prop where
 op: ∀s∈n.aa,∀e∈s.aj,-128<=e.op/\e.op<=127
 set: ∀s∈n.aa,∀e∈s.aj,∀r∈e.set,yc r.1/\yc r.2
theorem WT {n:Net} (hx:lL n) {i k:Nat} (hi:i<n.aa.length) (hk:k<(ah n.aa i).aj.length):dW n i k=false↔r68 n (ah n.aa i) i (ah (ah n.aa i).aj k)=true/\((ah (ah n.aa i).aj k).op=4->(ah (ah n.aa i).aj k).n∉cN n i k):=by
 have h8:=hx.op _ (ay hi) _ (ay hk)
 have hs:=aaG (hx.set _ (ay hi) _ (ay hk))
 by_cases h:(ah (ah n.aa i).aj k).op<0\/8<=(ah (ah n.aa i).aj k).op
 ·exact edX n i k _ rfl h8 h
 ·have:(ah (ah n.aa i).aj k).op=0\/(ah (ah n.aa i).aj k).op=1\/(ah (ah n.aa i).aj k).op=2\/(ah (ah n.aa i).aj k).op=3\/(ah (ah n.aa i).aj k).op=4\/(ah (ah n.aa i).aj k).op=5\/(ah (ah n.aa i).aj k).op=6\/(ah (ah n.aa i).aj k).op=7:=by omega
  rcases this with h|h|h|h|h|h|h|h
  ·exact ed0 n i k _ rfl hs h
  ·exact ed1 n i k _ rfl hs h
  ·exact ed2 n i k _ rfl hs h
  ·exact ed3 n i k _ rfl hs h
  ·exact ed4 n i k _ rfl hs h
  ·exact ed5 n i k _ rfl hs h
  ·exact ed6 n i k _ rfl hs h
  ·exact ed7 n i k _ rfl hs h
theorem st_eq {n:Net} (hx:lL n) {i:Nat} (hi:i<n.aa.length):iJ n i=iI n i:=by
 have h:iJ n i=false↔iI n i=false:=by
  unfold iJ iI
  rw [bL,bL]
  refine forall_congr' fun k=>imp_congr_right fun hk=> ?_
  have h4:sV n i k=false↔((ah (ah n.aa i).aj k).op=4->(ah (ah n.aa i).aj k).n∉cN n i k):=by
   unfold sV
   rw [bL,UK]
   constructor
   ·rintro h ho ⟨j,hj,e⟩
    have:=h j hj
    unfold n4 at this
    rw [ho,e] at this
    simp at this
   ·intro h j hj
    unfold n4
    cases ho:(ah (ah n.aa i).aj k).op==4 with
    |false=>rfl
    |true=>
     rw [Bool.true_and]
     exact beq_eq_false_iff_ne.2 fun e=>h (eq_of_beq ho) ⟨j,hj,e.symm⟩
  show dW n i k=false↔_
  rw [WT hx hi hk,<-h4]
  unfold n7
  rw [Bool.or_eq_false_iff,Bool.not_eq_false']
 cases e1:iI n i with
 |false=>exact h.2 e1
 |true=>
  cases e2:iJ n i with
  |true=>rfl
  |false=>rw [h.1 e2] at e1;cases e1
theorem aaI {n:Net} (hx:lL n):r28 n=r33 n:=by
 have key: ∀i,i<n.aa.length->mT n i=lB n i:=fun i hi=>by
  unfold mT lB
  rw [st_eq hx hi]
 show (!dh n.aa.length (mT n))= !dh n.aa.length (lB n)
 congr 1
 cases e1:dh n.aa.length (lB n) with
 |false=>exact bL.2 fun i hi=>(key i hi).trans (bL.1 e1 i hi)
 |true=>
  obtain ⟨i,hi,h⟩:=ey.1 e1
  exact ey.2 ⟨i,hi,(key i hi).trans h⟩
theorem HK {n:Net} (hx:lL n):r10 n=r11 n:=by
 unfold r10 r11
 rw [UJ,aaH,aaI hx]
 cases h1:r31 n with
 |false=>rfl
 |true=>
  cases h2:r32 n with
  |false=>rfl
  |true=>
   cases h3:r33 n with
   |false=>rfl
   |true=>
    have hn:=LG h2 h3
    have ho:=X1 h2 h3
    have he:=Np hn ho.ne
    rw [aaB hn ho,L6 he,WQ hn he,WR hn ho.aK (lexOf h3)]
    simp only [Bool.not_true,Bool.not_not,cond_false]
theorem L9 {n:Net} (h:((r11 n) !=0)=false):bw n:=by
 have h:r11 n=0:=by simpa using h
 unfold r11 at h
 cases h1:r31 n with
 |false=>rw [h1] at h;cases h
 |true=>
  cases h2:r32 n with
  |false=>rw [h1,h2] at h;cases h
  |true=>
   cases h3:r33 n with
   |false=>rw [h1,h2,h3] at h;cases h
   |true=>exact LG h2 h3
theorem aaJ {n:Net} (hx:lL n) (h:((r10 n) !=0)=false):bw n:=L9 (by rw [<-HK hx];exact h)
def i11 (n:Net):b9:=⟨11,[fY n],I (r11 n),bg n⟩
theorem g11 (n:Net):(i11 n).cd pg:=fun hp=>⟨M9 n hp,by simp [i11,ae],by simp [i11,AV.pure]⟩
def i10 (n:Net):b9:=⟨10,[fY n],I (r10 n),bg n⟩
theorem g10 (n:Net):(i10 n).cd pg:=fun hp=>⟨xw n hp,by simp [i10,ae],by simp [i10,AV.pure]⟩
def i25x (n:Net):b9:=⟨25,[fY n],.sl 1 ((r25 n).map aq),bw n/\bg n⟩
theorem g25x (n:Net):(i25x n).cd pg:=fun hp=>⟨p9 n hp.1 hp.2,by simp [i25x,ae],by simp [i25x,AV.pure]⟩
def i24x (n:Net):b9:=⟨24,[.pf (aR n)],.sl 1 ((r24 n).map aq),bw n/\bg n⟩
theorem g24x (n:Net):(i24x n).cd pg:=fun hp=>⟨qe n hp.1 hp.2,by simp [i24x,ae,AV.pure],by simp [i24x,AV.pure]⟩
def r9 (n:Net):AV:=(bif (r11 n) !=0 then .v (.slice none 0 0) else .sl 1 (map aq (r25 n)))
abbrev zBC:GT:=(.r [.int 1,bT] .nil)
abbrev zCO:GT:=(.r [bT] (.r [.int 0,.k,bT] (.br zD zBC)))
abbrev zCW (n:Net):=((r11 n) !=0)
theorem aaK (n:Net) (hf:bg n):ba pg 9 [.ag (aR n)] [] [] (r9 n) []:=
 bB (fn:=Tryz.f9) (callf:=(bC [i11 n,i25x n] base)) (pu:=aO) (lf:=3000) (l:=[]) (t:=zCO) (bf (.cons (g11 n) rfl (.cons (g25x n) rfl cv.nil)) aw) mixed Tryz.func9 (by kernel_rfl) (show Tryz.f9.body=some (aH 9) by kernel_rfl) (Nat.le_of_ble_eq_true rfl) (az _) (by unfold r9;cases (r11 n) !=0<;>simp [AV.und,cZ bS]) (aZ
 (an a0
 (an (a1 (cA (g11 n) hf a0))
 (brP (fun (h0:(zCW n)=true)=>
 (an a0
 (vE (show r9 n=(.v (.slice none 0 0)) from (cdT h0 rfl))))) (fun h0=>
 (an (cA (g25x n) ⟨L9 h0,hf⟩ a0)
 (vE (show r9 n=(.sl 1 (map aq (r25 n))) from (cdF h0 rfl))))))))
 (by kernel_rfl))
def r8 (n:Net):AV:=(bif (r10 n) !=0 then .v (.slice none 0 0) else .sl 1 (map aq (r24 n)))
theorem aaL (n:Net) (hf:bg n) (hx:lL n):ba pg 8 [.ag (aR n)] [] [] (r8 n) []:=
 bB (fn:=Tryz.f8) (callf:=(bC [i10 n,i24x n] base)) (pu:=aO) (lf:=3000) (l:=[]) (t:=zCO) (bf (.cons (g10 n) rfl (.cons (g24x n) rfl cv.nil)) aw) mixed Tryz.func8 (by kernel_rfl) (show Tryz.f8.body=some (aH 8) by kernel_rfl) (Nat.le_of_ble_eq_true rfl) (az _) (by unfold r8;cases (r10 n) !=0<;>simp [AV.und,cZ bS]) (aZ
 (an a0
 (an (a1 (cA (g10 n) hf a0))
 (brP (fun (h0:((r10 n) !=0)=true)=>
 (an a0
 (vE (show r8 n=(.v (.slice none 0 0)) from (cdT h0 rfl))))) (fun h0=>
 (an (cA (g24x n) ⟨aaJ hx h0,hf⟩ a0)
 (vE (show r8 n=(.sl 1 (map aq (r24 n))) from (cdF h0 rfl))))))))
 (by kernel_rfl))
end Go.Proofs.YtfkjfjalecikkaaGreatDoor
namespace Go.Am
open Go.ChangeShapes Go.WideShapes Go.RowKit
def xx (W W' :World):Prop:=W'.os=W.os/\W'.output=W.output/\W.heap.size<=W'.heap.size/\ ∀i,i<W.heap.size->W'.heap[i]? =W.heap[i]?
theorem xx.frame {W W' :World} (h:xx W W') (may:MemPlace->Prop):W.keptBut W' may:=by
 obtain ⟨h1,h2,h3,h4⟩:=h
 refine ⟨h1,h2,fun i hi=> ?_⟩
 rw [h4 i hi]
 split
 ·rename_i c t fr c' t' fr' e1 e2
  rw [e1] at e2;cases e2
  exact ⟨rfl,rfl,rfl,fun _ _=>rfl⟩
 ·rename_i es cl es' cl' e1 e2
  rw [e1] at e2;cases e2
  exact .inr ⟨rfl,rfl⟩
 ·rfl
theorem xx.frozen {W W' :World} (h:xx W W') (a:Addr) (ha:a.block<W.heap.size):W'.frozen? a=W.frozen? a:=by
 simp only [World.frozen?,h.2.2.2 a.block ha]
def ug (W:World) (h: ∀a x,Dm a=some x->W.cell? a=some x):Mem:=⟨fun a=>W.cell? a,h⟩
theorem Pr (W:World) (hW: ∀a x,Dm a=some x->W.cell? a=some x):Inv (ug W hW) (fun _=>none) [] W:=
 ⟨fun _ _ h=>h,fun o X h=>by simp at h,fun o o' b C C' h=>by obtain ⟨X,h,_⟩:=h;simp at h,fun o b C h=>by simp at h,fun o h=>by simp at h⟩
theorem DM {P:Program} {f:FuncId} {args:List AV} {r:Value} (h:ba P f args [] [] (.v r) []) (W:World) (hW: ∀a x,Dm a=some x->W.cell? a=some x) {vs:List Value} (hv:aA (ug W hW) (fun _=>none) args vs):
  Calls P f vs.toArray W fun e W' =>e= .returned r/\xx W W' :=by
 refine (h.2 _ _ W vs (Pr W hW) hv).mono fun e W' ⟨m',γ',r',ob',⟨h1,h2⟩,h3,h4,_,_⟩=> ?_
 subst h1
 have hn: ∀k,¬InG (fun _=>none:Gam) k:=fun k ⟨o,C,hk⟩=>by simp at hk
 refine ⟨?_,h4.os,h4.output,h4.size,fun i hi=>h4.blk i hi (hn i)⟩
 cases e with
 |returned v=>simp only [jB,Rep] at h3;rw [h3]
 |panicked c=>exact h3.elim
 |outgrown=>exact h3.elim
section
variable {H:Type} {enc:TypeId×Value->H} {P:Program}
theorem HL {f:Func} {s:ChangeSpec} {apart fresh handsOn again:Bool} {W W' :World} {args:Array Value} {v:Value} {ds gs:List (DataW H)} {before pa pv:List MemPlace}
  (hW:DataW.Whole enc P f.params.toList s.vars apart W args.toList ds gs before)
  (hres: ∀(b:Nat) (sp:Nat->Bool) (hd:Bool),DataW.TrodAll enc P W' b sp hd f.resultTypes.toList (v.resultList f.resultTypes.size) (s.fn H (ds++gs)).results [])
  (hargs: ∀sp:Nat->Bool,(∀p∈before,sp p.block=true)->DataW.TrodAll enc P W' 0 sp true f.params.toList args.toList (s.fn H (ds++gs)).args pa)
  (hvars: ∀sp:Nat->Bool,(∀p∈before,sp p.block=true)->DataW.TrodVars enc P W' sp s.vars (s.fn H (ds++gs)).vars pv)
  (hps:before=pa++pv) (hk:xx W W')
  (hok: ∀(j:Nat) (t:TypeId) (r:Value),f.resultTypes[j]? =some t->(v.resultList f.resultTypes.size)[j]? =some r->Value.okWide P W' .any 0 t r):
  s.post enc P f apart fresh handsOn again W args v W' :=by
 have hlt:=hW.lt
 have hold: ∀p∈before,(fun b=>decide (b<W.heap.size)) p.block=true:=fun p hp=>by simpa using hlt p hp
 refine ⟨ds,gs,before,[],pa,pv,hW,hres _ _ _,hargs _ hold,hvars _ hold,hk.frame _,fun _=> ?_⟩
 ·obtain ⟨_,_,_,_,_,hz,hn⟩:=hW
  refine ⟨hok,_,_,([]++pa)++pv,⟨[]++pa,pv,trodAll_append (hargs _ (fun _ _=>rfl)) (hres _ _ _),hvars _ (fun _ _=>rfl),rfl,?_,?_⟩,?_⟩
  ·intro b off hp
   have hp' :MemPlace.cell b off∈before:=by rw [hps];simpa using hp
   rw [hk.frozen _ (by simpa [MemPlace.block] using hlt _ hp')]
   exact hz b off hp'
  ·intro ha
   have:=hn ha
   rw [hps] at this
   simpa using this
  ·intro p hp _
   rw [hps]
   simpa using hp
def Nt (P:Program):Bool:=(range P.types.size).all fun t=>
 match P.underlying t with
 |some (.pointer e)=>decide (e<P.types.size)
 |some (.slice e)=>decide (e<P.types.size)&&decide (0<P.cellsOf e)
 |some (.array n e)=>decide (e<P.types.size)&&decide (P.cellsOf t=n*P.cellsOf e)
 |some (.struct fs)=>(fs.toList.all fun f=>decide (f.type<P.types.size))&&decide (P.cellsOf t=(fs.toList.map fun f=>P.cellsOf f.type).sum)&&
   (range fs.toList.length).all fun j=>(fs.toList[j]?).all fun f=>decide (f.offset=((fs.toList.take j).map fun f=>P.cellsOf f.type).sum)
 |some (.map _ e)=>decide (e<P.types.size)
 |_=>true
theorem Nu {P:Program} (h:Nt P=true):Kids P (fun t=>t<P.types.size)/\ ∀t e,t<P.types.size->P.underlying t=some (.slice e)->0<P.cellsOf e:=by
 have look: ∀t,t<P.types.size->_:=fun t ht=>List.all_eq_true.1 h t (List.mem_range.2 ht)
 refine ⟨⟨fun {t e} ht hu=> ?_,fun {t e} ht hu=> ?_,fun {t e n} ht hu=> ?_,fun {t fs} ht hu=> ?_,fun {t k e} ht hu=> ?_⟩,fun t e ht hu=> ?_⟩
 ·have:=look t ht;rw [hu] at this;simpa using this
 ·have:=look t ht;rw [hu] at this;simp only [Bool.and_eq_true,decide_eq_true_eq] at this;exact this.1
 ·have:=look t ht;rw [hu] at this;simpa only [Bool.and_eq_true,decide_eq_true_eq] using this
 ·have:=look t ht;rw [hu] at this
  simp only [Bool.and_eq_true,decide_eq_true_eq,List.all_eq_true,List.mem_range] at this
  obtain ⟨⟨h1,h2⟩,h3⟩:=this
  refine ⟨h1,h2,fun j f hj=> ?_⟩
  obtain ⟨hlt,_⟩:=List.getElem?_eq_some_iff.1 hj
  have:=h3 j hlt
  rw [hj] at this
  simpa using this
 ·have:=look t ht;rw [hu] at this;simpa using this
 ·have:=look t ht;rw [hu] at this;simp only [Bool.and_eq_true,decide_eq_true_eq] at this;exact this.2
theorem uh (hP:Nt P=true) {W W' :World} (hk:xx W W'): ∀{ts:List TypeId} {vs:List Value} {ds:List (DataW H)} {ps:List MemPlace},(∀t∈ts,t<P.types.size)->
  DataW.TrodAll enc P W 0 (fun _=>true) true ts vs ds ps->(∀p∈ps,p.block<W.heap.size)-> ∀sp:Nat->Bool,(∀p∈ps,sp p.block=true)->DataW.TrodAll enc P W' 0 sp true ts vs ds ps
 |[],_,_,_,_,h,_,_,_=>by
  obtain ⟨rfl,rfl,rfl⟩:=trodAll_nil h
  exact trodAll_mk0
 |t::ts,_,_,_,hts,h,hlt,sp,hsp=>by
  obtain ⟨v,vs1,d,ds1,p,q,rfl,rfl,rfl,⟨n,h1⟩,h2⟩:=trodAll_cons h
  have hc:=DataW.trod_carry (w' :=W') n t _ _ h1 (fun x hx=>by
   have hb:=hlt x (List.mem_append_left _ hx)
   cases x with
   |cell b off=>show W'.cell? _=W.cell? _;simp only [World.cell?,hk.2.2.2 b hb]
   |map b=>exact hk.2.2.2 b hb)
  exact trodAll_cons_mk ⟨n,DataW.trod_respare (Nu hP).1 (Nu hP).2 n t _ _ (hts t (List.mem_cons_self ..)) hc (fun x hx=>hsp x (List.mem_append_left _ hx))⟩
   (uh hP hk (fun u hu=>hts u (List.mem_cons_of_mem _ hu)) h2 (fun x hx=>hlt x (List.mem_append_right _ hx)) sp (fun x hx=>hsp x (List.mem_append_right _ hx)))
theorem Ps {f:Func} {s:ChangeSpec} {apart fresh handsOn again:Bool} {W W' :World} {args:Array Value} {ds gs:List (DataW H)} {before:List MemPlace} {tb:TypeId}
  (hW:DataW.Whole enc P f.params.toList s.vars apart W args.toList ds gs before) (hk:xx W W') (hP:Nt P=true) (hts:f.params.toList.all (fun t=>decide (t<P.types.size))=true)
  (hv:s.vars=[]) (hr:f.resultTypes= #[tb]) (hb:P.underlying tb=some .bool)
  (h1:(s.fn H ds).results=[.lit (.bool true)]) (h2:(s.fn H ds).args=ds) (h3:(s.fn H ds).vars=[]):
  s.post enc P f apart fresh handsOn again W args (.bool true) W' :=by
 have hW' :=hW
 have hlt:=hW.lt
 obtain ⟨p,q,hA,hV,rfl,_,_⟩:=hW
 rw [hv] at hV
 obtain ⟨rfl,rfl⟩:=trodVars_none hV
 have hts' : ∀t∈f.params.toList,t<P.types.size:=fun t ht=>by simpa using List.all_eq_true.1 hts t ht
 refine HL (pa:=p) (pv:=[]) hW' ?_ ?_ ?_ rfl hk ?_
 ·intro b sp hd
  rw [hr]
  simp only [List.append_nil,h1]
  exact trodAll_cons_mk (shut_bool hb _) trodAll_mk0
 ·intro sp hsp
  simp only [List.append_nil,h2]
  exact uh hP hk hts' hA (fun x hx=>hlt x (by simpa using hx)) sp (fun x hx=>hsp x (by simpa using hx))
 ·intro sp hsp
  rw [hv]
  simp only [List.append_nil,h3]
  rfl
 ·exact ok_one (by rw [hr]) rfl (okWide_bool_mk hb _)
end
end Go.Am
namespace Go.Proofs.YtfkjfjalecikkaaGreatDoor
open Go.ChangeShapes Go.WideShapes Go.ChangeAt Go.RowKit Go.Am
section
variable {P:Program} {H:Type} {enc:TypeId×Value->H} {W:World} {hW: ∀a x,Dm a=some x->W.cell? a=some x} {base:Nat} {v:Value} {d:DataW H} {p:List MemPlace} {α β:Type}
theorem Pt {a:Addr} {n:Nat} {cs:List Value} (h:W.cells? 0 a n=some cs):cs.length=n/\ ∀j,j<n->W.cell? (a.add j)=cs[j]? :=by
 simp only [World.cells?,Nat.zero_le,if_true] at h
 exact ⟨by simpa using mapM_some_length h,fun j hj=>mapM_some_get h j j (by simp [hj])⟩
theorem WU {f:α->List AV} {S:Nat} {Q:α->Prop} {a:Addr} {len cap:Nat} (hlc:len<=cap) (hS:0<S) (hf: ∀x,(f x).length=S)
  (each: ∀i,i<len-> ∃(x:α) (cs:List Value),Q x/\aA (ug W hW) (fun _=>none) (f x) cs/\cs.length=S/\ ∀j,j<S->W.cell? ((a.add (i*S)).add j)=cs[j]?):
  ∃l:List α,l.length=len/\(∀x∈l,Q x)/\Rep (ug W hW) (fun _=>none) (.sl S (l.map f)) (.slice (some a) len cap):=by
 have hall: ∀k,k<=len-> ∃l:List α,l.length=k/\(∀x∈l,Q x)/\ ∀i x,l[i]? =some x-> ∃cs:List Value,aA (ug W hW) (fun _=>none) (f x) cs/\cs.length=S/\ ∀j,j<S->W.cell? ((a.add (i*S)).add j)=cs[j]? :=by
  intro k
  induction k with
  |zero=>intro _;exact ⟨[],rfl,by simp,by simp⟩
  |succ k ih=>
   intro hk
   obtain ⟨l,h1,h2,h3⟩:=ih (by omega)
   obtain ⟨x,cs,hq,hx⟩:=each k (by omega)
   refine ⟨l++ [x],by simp [h1],fun y hy=> ?_,fun i u hu=> ?_⟩
   ·rcases List.mem_append.1 hy with hy|hy
    ·exact h2 y hy
    ·simp at hy;subst hy;exact hq
   ·by_cases hi:i<l.length
    ·rw [List.getElem?_append_left hi] at hu;exact h3 i u hu
    ·rw [List.getElem?_append_right (by omega)] at hu
     have hil:i=l.length:=by
      have:=(List.getElem?_eq_some_iff.1 hu).1
      simp at this;omega
     subst hil
     simp at hu
     subst hu
     rw [h1];exact ⟨cs,hx⟩
 obtain ⟨l,hll,hq,hlc2⟩:=hall len (Nat.le_refl _)
 refine ⟨l,hll,hq,?_⟩
 simp only [Rep]
 refine ⟨some a,len,cap,rfl,by simp;omega,hlc,?_⟩
 by_cases h0:len=0
 ·left
  have:l=[]:=List.eq_nil_of_length_eq_zero (by omega)
  rw [this];rfl
 ·right
  obtain ⟨x0,hx0⟩: ∃x,l[0]? =some x:=⟨_,List.getElem?_eq_getElem (by omega)⟩
  obtain ⟨cs0,hr0,hl0,hc0⟩:=hlc2 0 x0 hx0
  obtain ⟨ab,ao,spot⟩:=a
  have hspot:spot=none:=by
   have h1:=hc0 0 hS
   rw [List.getElem?_eq_getElem (by omega)] at h1
   simpa [Addr.add] using World.cell?_spot h1
  subst hspot
  refine ⟨ab,ao,rfl,gQ fun i r hr=> ?_⟩
  rw [List.getElem?_map] at hr
  cases hti:l[i]? with
  |none=>rw [hti] at hr;cases hr
  |some x=>
   rw [hti] at hr
   simp only [Option.map_some,Option.some.injEq] at hr
   subst hr
   obtain ⟨cs,h1,h2,h3⟩:=hlc2 i x hti
   refine ⟨hf x,eu fun j c hcj=> ?_⟩
   have hj:j<S:=by have:=(List.getElem?_eq_some_iff.1 hcj).1;rw [hf] at this;exact this
   obtain ⟨y,hy,hry⟩:=bW h1 j c hcj
   have:=h3 j hj
   rw [Addr.add_lit,Addr.add_lit,hy] at this
   exact ⟨y,this,hry⟩
def Rd (P:Program) (enc:TypeId×Value->H) (W:World) (hW: ∀a x,Dm a=some x->W.cell? a=some x) (n:Nat) (f:α->List AV) (Q:α->Prop) (T:TypeId):Prop:=
 ∀cs x,DataW.trod enc P W 0 (fun _=>true) true n T cs=some x->(∀w∈x.1.weights P T,w<=reachBytes)-> ∃a,Q a/\aA (ug W hW) (fun _=>none) (f a) cs
theorem oV {e:TypeId}: ∀{l:List (DataW H)} {y:DataW H},y∈l-> ∀w∈y.weights P e,w∈DataW.weightsAll P e l
 |z::l,y,hy,w,hw=>by
  simp only [DataW.weightsAll,List.mem_append]
  rcases List.mem_cons.1 hy with rfl|hy
  ·exact .inl hw
  ·exact .inr (oV hy w hw)
theorem jh: ∀{ts:List TypeId} {l:List (DataW H)} {i:Nat} {t:TypeId} {y:DataW H},ts[i]? =some t->l[i]? =some y-> ∀w∈y.weights P t,w∈DataW.weightsEach P ts l
 |t::ts,z::l,0,_,_,ht,hy,w,hw=>by simp at ht hy;subst ht;subst hy;simp only [DataW.weightsEach,List.mem_append];exact .inl hw
 |t::ts,z::l,i+1,_,_,ht,hy,w,hw=>by simp only [DataW.weightsEach,List.mem_append];exact .inr (jh (i:=i) (by simpa using ht) (by simpa using hy) w hw)
 |[],_,_,_,_,ht,_,_,_=>by simp at ht
 |_::_,[],_,_,_,_,hy,_,_=>by simp at hy
theorem gz {n:Nat} {T:TypeId} {k:IntKind} (ht:P.underlying T=some (.int k)):Rd P enc W hW n (fun z=>[.v (.int k z)]) (fun z=>(Lit.int k z).wf=true) T:=fun cs x h _=>by
 obtain ⟨z,rfl,_,hz⟩:=DataW.trod_int ht h
 exact ⟨z,hz,by simp [aA,Rep]⟩
theorem yO {n:Nat} {T:TypeId} (ht:P.underlying T=some .bool):Rd P enc W hW n (fun b=>[B b]) (fun _=>True) T:=fun cs x h _=>by
 obtain ⟨z,rfl,_⟩:=DataW.trod_bool ht h
 exact ⟨z,trivial,by simp [aA,Rep]⟩
theorem Dg {n:Nat} {T:TypeId} (ht:P.underlying T=some .string):Rd P enc W hW n bx (fun s=>s.size<=9223372036854775807) T:=fun cs x h _=>by
 obtain ⟨z,rfl,_,hz⟩:=DataW.trod_string ht h
 exact ⟨z,hz,by simp [bx,aA,Rep]⟩
theorem mO {n:Nat} {f:α->List AV} {Q:α->Prop} {T e:TypeId} {S by' :Nat} (ht:P.underlying T=some (.slice e)) (hc:P.cellsOf e=S) (hb:P.bytesOf e=by') (hS:0<S) (hf: ∀x,(f x).length=S) (hr: ∀m,m<n->Rd P enc W hW m f Q e):
  Rd P enc W hW n (fun (l:List α)=>[.sl S (l.map f)]) (fun (l:List α)=>l.length<=9223372036854775807/\l.length*by' <=140737488351232/\ ∀x∈l,Q x) T:=fun cs x h hw=>by
 rcases DataW.trod_slice ht h with ⟨hcs,_⟩|⟨a,len,cap,elems,rest,m,hm,hcs,hx,_,hl,hmx,hlen,hel,_,_⟩
 ·subst hcs
  exact ⟨[],by simp,by simp only [aA,List.map_nil];exact ⟨_,_,rfl,by simp only [Rep];exact ⟨none,0,0,rfl,rfl,Nat.le_refl _,.inl trivial⟩,rfl⟩⟩
 ·subst hcs hx
  simp only [DataW.weights,ht,List.mem_cons,List.mem_append] at hw
  have h0:=hw _ (.inl rfl)
  simp only [List.length_map,hlen] at h0
  obtain ⟨l,h1,h2,h3⟩:=WU (S:=S) (f:=f) (Q:=Q) (hW:=hW) (a:=a) hl hS hf fun i hi=>by
   have h1:=hel i hi
   rw [hc,List.getElem?_eq_getElem (by omega)] at h1
   simp only [Option.bind_eq_some_iff] at h1
   obtain ⟨cs,h2,h3⟩:=h1
   obtain ⟨hcl,hcell⟩:=Pt h2
   obtain ⟨z,q1,q2⟩:=hr m (by omega) cs _ h3 fun w hw' =>hw w (.inr (.inl (oV (List.mem_map_of_mem (List.getElem_mem _)) w hw')))
   exact ⟨z,cs,q1,q2,hcl,hcell⟩
  have:cap<=9223372036854775807:=hmx
  have h5:len*by' <=140737488351232:=by
   rw [hb,Nat.add_mul] at h0
   have:reachBytes=140737488351232:=rfl
   omega
  refine ⟨l,⟨by omega,by rw [h1];exact h5,h2⟩,?_⟩
  simp only [aA]
  exact ⟨_,_,rfl,h3,rfl⟩
theorem Ac {n:Nat} {T:TypeId} {fs:Array Field} {cs:List Value} {x:DataW H×List MemPlace} (ht:P.underlying T=some (.struct fs)) (h:DataW.trod enc P W 0 (fun _=>true) true n T cs=some x) (hw: ∀w∈x.1.weights P T,w<=reachBytes):
  ∃m,m<n/\cs.length=P.cellsOf T/\ ∀(i:Nat) (fd:Field),fs[i]? =some fd-> ∃y,DataW.trod enc P W 0 (fun _=>true) true m fd.type ((cs.drop fd.offset).take (P.cellsOf fd.type))=some y/\ ∀w∈y.1.weights P fd.type,w<=reachBytes:=by
 obtain ⟨ys,m,hm,hx,hl,hys,hfl⟩:=DataW.trod_struct ht h
 subst hx
 refine ⟨m,by omega,hl,fun i fd hfd=> ?_⟩
 have hi:i<ys.length:=by rw [hys];exact (Array.getElem?_eq_some_iff.1 hfd).1
 have:=hfl i fd hfd
 rw [List.getElem?_eq_getElem hi] at this
 refine ⟨_,this,fun w hw' =>hw w ?_⟩
 simp only [DataW.weights,ht]
 exact jh (i:=i) (t:=fd.type) (by simp [hfd]) (by simp [hi]) w hw'
theorem fld {m:Nat} {f:α->List AV} {Q:α->Prop} {t:TypeId} {cs:List Value} {o s:Nat} {fd:Field} {y:DataW H×List MemPlace} (hr:Rd P enc W hW m f Q t) (ho:fd.offset=o) (hs:P.cellsOf fd.type=s) (hT:fd.type=t)
  (h:DataW.trod enc P W 0 (fun _=>true) true m fd.type ((cs.drop fd.offset).take (P.cellsOf fd.type))=some y) (hw: ∀w∈y.1.weights P fd.type,w<=reachBytes): ∃a,Q a/\aA (ug W hW) (fun _=>none) (f a) ((cs.drop o).take s):=by
 rw [ho,hs] at h
 rw [hT] at h hw
 exact hr _ _ h hw
theorem glue {m:Mem} {g:Gam} {l1 l2:List AV} {cs:List Value} {o s t:Nat} (h1:aA m g l1 ((cs.drop o).take s)) (h2:aA m g l2 ((cs.drop (o+s)).take t)):aA m g (l1++l2) ((cs.drop o).take (s+t)):=by
 rw [List.take_add,List.drop_drop]
 exact cn h1 h2
theorem whole {m:Mem} {g:Gam} {l:List AV} {cs:List Value} {s:Nat} (hs:cs.length=s) (h:aA m g l ((cs.drop 0).take s)):aA m g l cs:=by
 rwa [List.drop_zero,List.take_of_length_le (by omega)] at h
end
section
variable {H:Type} {enc:TypeId×Value->H} {W:World} {hW: ∀a x,Dm a=some x->W.cell? a=some x}
theorem u2:Tryz.prog.underlying 2=some (.int .i64):=by kernel_rfl
theorem u3:Tryz.prog.underlying 3=some (.int .i64):=by kernel_rfl
theorem u4:Tryz.prog.underlying 4=some (.bool):=by kernel_rfl
theorem u9:Tryz.prog.underlying 9=some (.string):=by kernel_rfl
theorem u21:Tryz.prog.underlying 21=some (.int .i32):=by kernel_rfl
theorem u22:Tryz.prog.underlying 22=some (.slice 9):=by kernel_rfl
theorem u23:Tryz.prog.underlying 23=some (.slice 51):=by kernel_rfl
theorem u24:Tryz.prog.underlying 24=some (.slice 40):=by kernel_rfl
theorem u26:Tryz.prog.underlying 26=some (.struct #[⟨ "Types",22,0,false, "", "",0⟩,⟨ "Channels",22,1,false, "", "",24⟩,⟨ "Modes",22,2,false, "", "",48⟩,⟨ "Rules",23,3,false, "", "",72⟩,⟨ "States",24,4,false, "", "",96⟩]):=by kernel_rfl
theorem u38:Tryz.prog.underlying 38=some (.slice 49):=by kernel_rfl
theorem u40:Tryz.prog.underlying 40=some (.struct #[⟨ "Rule",3,0,false, "", "",0⟩,⟨ "Edges",38,1,false, "", "",8⟩]):=by kernel_rfl
theorem u41:Tryz.prog.underlying 41=some (.int .i8):=by kernel_rfl
theorem u43:Tryz.prog.underlying 43=some (.slice 89):=by kernel_rfl
theorem u44:Tryz.prog.underlying 44=some (.slice 46):=by kernel_rfl
theorem u46:Tryz.prog.underlying 46=some (.struct #[⟨ "Op",41,0,false, "", "",0⟩,⟨ "N",2,1,false, "", "",8⟩,⟨ "Name",9,2,false, "", "",16⟩,⟨ "Kids",44,3,false, "", "",32⟩]):=by kernel_rfl
theorem u47:Tryz.prog.underlying 47=some (.slice 92):=by kernel_rfl
theorem u49:Tryz.prog.underlying 49=some (.struct #[⟨ "Op",41,0,false, "", "",0⟩,⟨ "Set",43,1,false, "", "",8⟩,⟨ "N",3,2,false, "", "",32⟩,⟨ "Level",3,3,false, "", "",40⟩,⟨ "G",46,4,false, "", "",48⟩,⟨ "Acts",47,8,false, "", "",104⟩,⟨ "To",3,9,false, "", "",128⟩]):=by kernel_rfl
theorem u51:Tryz.prog.underlying 51=some (.struct #[⟨ "Name",9,0,false, "", "",0⟩,⟨ "Lexer",4,1,false, "", "",16⟩,⟨ "Frag",4,2,false, "", "",17⟩,⟨ "Lazy",4,3,false, "", "",18⟩,⟨ "Left",4,4,false, "", "",19⟩,⟨ "Mode",3,5,false, "", "",24⟩,⟨ "Type",3,6,false, "", "",32⟩,⟨ "Start",3,7,false, "", "",40⟩,⟨ "Stop",3,8,false, "", "",48⟩]):=by kernel_rfl
theorem u89:Tryz.prog.underlying 89=some (.struct #[⟨ "Lo",21,0,false, "", "",0⟩,⟨ "Hi",21,1,false, "", "",4⟩]):=by kernel_rfl
theorem u92:Tryz.prog.underlying 92=some (.struct #[⟨ "Op",41,0,false, "", "",0⟩,⟨ "N",3,1,false, "", "",8⟩]):=by kernel_rfl
theorem w32 {z:Int} (h:(Lit.int .i32 z).wf=true):yc z:=by
 have h:IntKind.i32.min<=z/\z<=IntKind.i32.max:=by simpa [Lit.wf] using h
 rwa [show IntKind.i32.min= -2147483648 from rfl,show IntKind.i32.max=2147483647 from rfl] at h
theorem w8 {z:Int} (h:(Lit.int .i8 z).wf=true): -128<=z/\z<=127:=by
 have h:IntKind.i8.min<=z/\z<=IntKind.i8.max:=by simpa [Lit.wf] using h
 rwa [show IntKind.i8.min= -128 from rfl,show IntKind.i8.max=127 from rfl] at h
theorem aaM: ∀g:G,(gC g).length=4
 | .mk .. =>by simp [gC]
theorem JU: ∀{l:List G},(∀u∈l,eS u)->Bh l
 |[],_=>by simp [Bh]
 |a::l,h=>by simp only [Bh];exact ⟨h a (by simp),JU fun u hu=>h u (by simp [hu])⟩
structure UL (e:Edge):Prop where
 fit:DH e
 set: ∀r∈e.set,yc r.1/\yc r.2
structure j0 (n:Net):Prop where
 types:n.types.length<=9223372036854775807
 n0:n.cE.length<=9223372036854775807
 cH:n.cH.length<=9223372036854775807
 rules:n.rules.length*56<=140737488351232
 aa:n.aa.length*32<=140737488351232
 aj: ∀s∈n.aa,s.aj.length*136<=140737488351232/\ ∀e∈s.aj,UL e
theorem UM {n:Nat}:Rd Tryz.prog enc W hW n bo (fun r=>yc r.1/\yc r.2) 89:=fun cs x h hw=>by
 obtain ⟨m,hm,hl,hf⟩:=Ac u89 h hw
 obtain ⟨y0,h0,w0⟩:=hf 0 _ rfl
 obtain ⟨a0,q0,r0⟩:=fld (o:=0) (s:=1) (t:=21) (gz (u21)) rfl (by kernel_rfl) rfl h0 w0
 obtain ⟨y1,h1,w1⟩:=hf 1 _ rfl
 obtain ⟨a1,q1,r1⟩:=fld (o:=1) (s:=1) (t:=21) (gz (u21)) rfl (by kernel_rfl) rfl h1 w1
 have hl:cs.length=2:=hl.trans (by kernel_rfl)
 exact ⟨(a0,a1),⟨w32 q0,w32 q1⟩,whole hl (glue r0 r1)⟩
theorem aaN {n:Nat}:Rd Tryz.prog enc W hW n fG (fun _=>True) 92:=fun cs x h hw=>by
 obtain ⟨m,hm,hl,hf⟩:=Ac u92 h hw
 obtain ⟨y0,h0,w0⟩:=hf 0 _ rfl
 obtain ⟨a0,q0,r0⟩:=fld (o:=0) (s:=1) (t:=41) (gz (u41)) rfl (by kernel_rfl) rfl h0 w0
 obtain ⟨y1,h1,w1⟩:=hf 1 _ rfl
 obtain ⟨a1,q1,r1⟩:=fld (o:=1) (s:=1) (t:=3) (gz (u3)) rfl (by kernel_rfl) rfl h1 w1
 have hl:cs.length=2:=hl.trans (by kernel_rfl)
 exact ⟨(a0,a1),trivial,whole hl (glue r0 r1)⟩
theorem WV {n:Nat}:Rd Tryz.prog enc W hW n aD (fun _=>True) 51:=fun cs x h hw=>by
 obtain ⟨m,hm,hl,hf⟩:=Ac u51 h hw
 obtain ⟨y0,h0,w0⟩:=hf 0 _ rfl
 obtain ⟨a0,q0,r0⟩:=fld (o:=0) (s:=1) (t:=9) (Dg (u9)) rfl (by kernel_rfl) rfl h0 w0
 obtain ⟨y1,h1,w1⟩:=hf 1 _ rfl
 obtain ⟨a1,q1,r1⟩:=fld (o:=1) (s:=1) (t:=4) (yO (u4)) rfl (by kernel_rfl) rfl h1 w1
 obtain ⟨y2,h2,w2⟩:=hf 2 _ rfl
 obtain ⟨a2,q2,r2⟩:=fld (o:=2) (s:=1) (t:=4) (yO (u4)) rfl (by kernel_rfl) rfl h2 w2
 obtain ⟨y3,h3,w3⟩:=hf 3 _ rfl
 obtain ⟨a3,q3,r3⟩:=fld (o:=3) (s:=1) (t:=4) (yO (u4)) rfl (by kernel_rfl) rfl h3 w3
 obtain ⟨y4,h4,w4⟩:=hf 4 _ rfl
 obtain ⟨a4,q4,r4⟩:=fld (o:=4) (s:=1) (t:=4) (yO (u4)) rfl (by kernel_rfl) rfl h4 w4
 obtain ⟨y5,h5,w5⟩:=hf 5 _ rfl
 obtain ⟨a5,q5,r5⟩:=fld (o:=5) (s:=1) (t:=3) (gz (u3)) rfl (by kernel_rfl) rfl h5 w5
 obtain ⟨y6,h6,w6⟩:=hf 6 _ rfl
 obtain ⟨a6,q6,r6⟩:=fld (o:=6) (s:=1) (t:=3) (gz (u3)) rfl (by kernel_rfl) rfl h6 w6
 obtain ⟨y7,h7,w7⟩:=hf 7 _ rfl
 obtain ⟨a7,q7,r7⟩:=fld (o:=7) (s:=1) (t:=3) (gz (u3)) rfl (by kernel_rfl) rfl h7 w7
 obtain ⟨y8,h8,w8⟩:=hf 8 _ rfl
 obtain ⟨a8,q8,r8⟩:=fld (o:=8) (s:=1) (t:=3) (gz (u3)) rfl (by kernel_rfl) rfl h8 w8
 have hl:cs.length=9:=hl.trans (by kernel_rfl)
 exact ⟨⟨a0,a1,a2,a3,a4,a5,a6,a7,a8⟩,trivial,whole hl (glue (glue (glue (glue (glue (glue (glue (glue r0 r1) r2) r3) r4) r5) r6) r7) r8)⟩
theorem UN: ∀{n:Nat},Rd Tryz.prog enc W hW n gC eS 46:=by
 intro n
 induction n using Nat.strongRecOn with
 |ind n ih=>
 intro cs x h hw
 obtain ⟨m,hm,hl,hf⟩:=Ac u46 h hw
 obtain ⟨y0,h0,w0⟩:=hf 0 _ rfl
 obtain ⟨a0,q0,r0⟩:=fld (o:=0) (s:=1) (t:=41) (gz (u41)) rfl (by kernel_rfl) rfl h0 w0
 obtain ⟨y1,h1,w1⟩:=hf 1 _ rfl
 obtain ⟨a1,q1,r1⟩:=fld (o:=1) (s:=1) (t:=2) (gz (u2)) rfl (by kernel_rfl) rfl h1 w1
 obtain ⟨y2,h2,w2⟩:=hf 2 _ rfl
 obtain ⟨a2,q2,r2⟩:=fld (o:=2) (s:=1) (t:=9) (Dg (u9)) rfl (by kernel_rfl) rfl h2 w2
 obtain ⟨y3,h3,w3⟩:=hf 3 _ rfl
 obtain ⟨a3,q3,r3⟩:=fld (o:=3) (s:=1) (t:=44) (mO (S:=4) (by' :=56) (u44) (by kernel_rfl) (by kernel_rfl) (by omega) aaM (fun k hk=>ih k (by omega))) rfl (by kernel_rfl) rfl h3 w3
 have hl:cs.length=4:=hl.trans (by kernel_rfl)
 refine ⟨.mk a0 a1 a2 a3,?_,?_⟩
 ·simp only [eS];exact ⟨w8 q0,q2,q3.1,JU q3.2.2⟩
 ·simp only [gC,Gj];exact whole hl (glue (glue (glue r0 r1) r2) r3)
theorem WW {n:Nat}:Rd Tryz.prog enc W hW n bc UL 49:=fun cs x h hw=>by
 obtain ⟨m,hm,hl,hf⟩:=Ac u49 h hw
 obtain ⟨y0,h0,w0⟩:=hf 0 _ rfl
 obtain ⟨a0,q0,r0⟩:=fld (o:=0) (s:=1) (t:=41) (gz (u41)) rfl (by kernel_rfl) rfl h0 w0
 obtain ⟨y1,h1,w1⟩:=hf 1 _ rfl
 obtain ⟨a1,q1,r1⟩:=fld (o:=1) (s:=1) (t:=43) (mO (S:=2) (by' :=8) (u43) (by kernel_rfl) (by kernel_rfl) (by omega) (fun _=>rfl) (fun _ _=>UM)) rfl (by kernel_rfl) rfl h1 w1
 obtain ⟨y2,h2,w2⟩:=hf 2 _ rfl
 obtain ⟨a2,q2,r2⟩:=fld (o:=2) (s:=1) (t:=3) (gz (u3)) rfl (by kernel_rfl) rfl h2 w2
 obtain ⟨y3,h3,w3⟩:=hf 3 _ rfl
 obtain ⟨a3,q3,r3⟩:=fld (o:=3) (s:=1) (t:=3) (gz (u3)) rfl (by kernel_rfl) rfl h3 w3
 obtain ⟨y4,h4,w4⟩:=hf 4 _ rfl
 obtain ⟨a4,q4,r4⟩:=fld (o:=4) (s:=4) (t:=46) UN rfl (by kernel_rfl) rfl h4 w4
 obtain ⟨y5,h5,w5⟩:=hf 5 _ rfl
 obtain ⟨a5,q5,r5⟩:=fld (o:=8) (s:=1) (t:=47) (mO (S:=2) (by' :=16) (u47) (by kernel_rfl) (by kernel_rfl) (by omega) (fun _=>rfl) (fun _ _=>aaN)) rfl (by kernel_rfl) rfl h5 w5
 obtain ⟨y6,h6,w6⟩:=hf 6 _ rfl
 obtain ⟨a6,q6,r6⟩:=fld (o:=9) (s:=1) (t:=3) (gz (u3)) rfl (by kernel_rfl) rfl h6 w6
 have hl:cs.length=10:=hl.trans (by kernel_rfl)
 have r4:aA (ug W hW) (fun _=>none) [I8 a4.op,I a4.n,S a4.name,.sl 4 (a4.kids.map gC)] _:=(show gC a4=_ from by rw [<-KM])▸r4
 exact ⟨⟨a0,a1,a2,a3,a4,a5,a6⟩,⟨⟨q4,w8 q0,q1.1,q5.1⟩,q1.2.2⟩,whole hl (glue (glue (glue (glue (glue (glue r0 r1) r2) r3) r4) r5) r6)⟩
theorem UO {n:Nat}:Rd Tryz.prog enc W hW n ak (fun s=>s.aj.length*136<=140737488351232/\ ∀e∈s.aj,UL e) 40:=fun cs x h hw=>by
 obtain ⟨m,hm,hl,hf⟩:=Ac u40 h hw
 obtain ⟨y0,h0,w0⟩:=hf 0 _ rfl
 obtain ⟨a0,q0,r0⟩:=fld (o:=0) (s:=1) (t:=3) (gz (u3)) rfl (by kernel_rfl) rfl h0 w0
 obtain ⟨y1,h1,w1⟩:=hf 1 _ rfl
 obtain ⟨a1,q1,r1⟩:=fld (o:=1) (s:=1) (t:=38) (mO (S:=10) (by' :=136) (u38) (by kernel_rfl) (by kernel_rfl) (by omega) (fun _=>rfl) (fun _ _=>WW)) rfl (by kernel_rfl) rfl h1 w1
 have hl:cs.length=2:=hl.trans (by kernel_rfl)
 exact ⟨⟨a0,a1⟩,q1.2,whole hl (glue r0 r1)⟩
theorem aaO {n:Nat}:Rd Tryz.prog enc W hW n aR j0 26:=fun cs x h hw=>by
 obtain ⟨m,hm,hl,hf⟩:=Ac u26 h hw
 obtain ⟨y0,h0,w0⟩:=hf 0 _ rfl
 obtain ⟨a0,q0,r0⟩:=fld (o:=0) (s:=1) (t:=22) (mO (S:=1) (by' :=16) (u22) (by kernel_rfl) (by kernel_rfl) (by omega) (fun _=>rfl) (fun _ _=>Dg u9)) rfl (by kernel_rfl) rfl h0 w0
 obtain ⟨y1,h1,w1⟩:=hf 1 _ rfl
 obtain ⟨a1,q1,r1⟩:=fld (o:=1) (s:=1) (t:=22) (mO (S:=1) (by' :=16) (u22) (by kernel_rfl) (by kernel_rfl) (by omega) (fun _=>rfl) (fun _ _=>Dg u9)) rfl (by kernel_rfl) rfl h1 w1
 obtain ⟨y2,h2,w2⟩:=hf 2 _ rfl
 obtain ⟨a2,q2,r2⟩:=fld (o:=2) (s:=1) (t:=22) (mO (S:=1) (by' :=16) (u22) (by kernel_rfl) (by kernel_rfl) (by omega) (fun _=>rfl) (fun _ _=>Dg u9)) rfl (by kernel_rfl) rfl h2 w2
 obtain ⟨y3,h3,w3⟩:=hf 3 _ rfl
 obtain ⟨a3,q3,r3⟩:=fld (o:=3) (s:=1) (t:=23) (mO (S:=9) (by' :=56) (u23) (by kernel_rfl) (by kernel_rfl) (by omega) (fun _=>rfl) (fun _ _=>WV)) rfl (by kernel_rfl) rfl h3 w3
 obtain ⟨y4,h4,w4⟩:=hf 4 _ rfl
 obtain ⟨a4,q4,r4⟩:=fld (o:=4) (s:=1) (t:=24) (mO (S:=2) (by' :=32) (u24) (by kernel_rfl) (by kernel_rfl) (by omega) (fun _=>rfl) (fun _ _=>UO)) rfl (by kernel_rfl) rfl h4 w4
 have hl:cs.length=5:=hl.trans (by kernel_rfl)
 exact ⟨⟨a0,a1,a2,a3,a4⟩,⟨q0.1,q1.1,q2.1,q3.2.1,q4.2.1,q4.2.2⟩,whole hl (glue (glue (glue (glue r0 r1) r2) r3) r4)⟩
theorem WX {v:Value} {base:Nat} {d:DataW H} {p:List MemPlace} (hval:Value.okWide Tryz.prog W .any base 26 v) (h:DataW.Trod enc Tryz.prog W 0 (fun _=>true) true 26 v d p) (hw: ∀w∈d.weights Tryz.prog 26,w<=reachBytes):
  ∃n:Net,j0 n/\Rep (ug W hW) (fun _=>none) (.ag (aR n)) v:=by
 obtain ⟨cs,rfl,_⟩:=okWide_struct u26 hval
 obtain ⟨fuel,hf⟩:=h
 obtain ⟨n,h1,h2⟩:=aaO (hW:=hW) _ _ hf hw
 refine ⟨n,h1,?_⟩
 simp only [Rep]
 exact ⟨_,by simp [Value.cells],h2⟩
end
def UP:Code:=bV 0 (aH 6)
def UQ (n:Net) (i0:Nat) (y0:Int):Int:=(IntKind.wrap IntKind.i64 (y0+((1+length (map bc (ah n.aa i0).aj):Nat):Int)))
def iZ (n:Net) (kk:Nat):Int:=Nat.rec (motive:=fun _=>Int) 0 (fun j a=>UQ n j a) kk
theorem wrapR (z:Int): -9223372036854775808<=IntKind.i64.wrap z/\IntKind.i64.wrap z<=9223372036854775807:=by
 unfold IntKind.wrap IntKind.signed IntKind.bits
 simp only [Bool.true_and,decide_eq_true_eq]
 have e1:(2:Int)^64=18446744073709551616:=rfl
 have e2:(2:Int)^(64-1)=9223372036854775808:=rfl
 rw [e1,e2]
 split<;>omega
theorem le6 (n:Net) (i:Nat): -9223372036854775808<=iZ n i/\iZ n i<=9223372036854775807:=by
 cases i with
 |zero=>exact ⟨by show _<=(0:Int);omega,by show (0:Int)<=_;omega⟩
 |succ i=>exact wrapR _
def Ma (n:Net) (i0:Nat):Am.Loc:=[(1,.pf (aR n)),(3,I (iZ n i0)),(7,I (length (zA n):Int)),(8,I (i0:Int))]
def UR (n:Net) (i0:Nat):List Ob:=[]
def US (n:Net) (i0:Nat):Bool:=false
def aaP (n:Net):Bool:=false
def Nv (n:Net) (i0:Nat):Am.Loc:=[]
def X4 (n:Net) (i0:Nat):List Ob:=[]
def Dh (n:Net):Am.Loc:=[(1,.pf (aR n)),(3,I (iZ n (zG n)))]
def JV (n:Net):List Ob:=[]
def Nw (n:Net):KB:=⟨Ma n 0,UR n 0,aaP n,.ret,Nv n (cc (zG n) (US n)),X4 n (cc (zG n) (US n)),.normal,Dh n,JV n,True⟩
def UT (n:Net) (i0:Nat):List bj:=[nxW (US n i0) (Ma n (i0+1)) (UR n (i0+1)) [(1,.pf (aR n)),(3,I (IntKind.wrap IntKind.i64 ((iZ n i0)+((1+length (zd i0 n):Nat):Int)))),(7,I (length (zA n):Int)),(8,I ↑(i0+1))] za []]
def G6_0 (n:Net) (i0:Nat):GT:=(.r [.k,bT] (.yes (.r [bT] (.r [.row (ak (ah n.aa i0)),.int ((1+length (map bc (ah n.aa i0).aj):Nat):Int),.int (IntKind.wrap IntKind.i64 ((iZ n i0)+((1+length (map bc (ah n.aa i0).aj):Nat):Int))),bT] (.r [.int ↑(i0+1),bT] (.pick 0))))))
theorem vc6_0 (n:Net) (i0:Nat) (hf:j0 n) (hx0:i0<(length n.aa)):vcC pg 30 base aO 3000 (kbL []) UP (bu (Ma n i0)) (bA (UR n i0)) 0 (bQ (UT n i0)) (G6_0 n i0):=
 have hr:=hf.rules;have hs:=hf.aa;have hq:=le6 n i0;have he:=(hf.aj _ (ay hx0)).1;have lem:=aW bc (ah n.aa i0).aj;have l1:=aW ak (n.aa);have hb:(zj i0 n)=true:=decide_eq_true (by omega);
 aZ (an (a1 a0)
 (an hb (an a0
 (an (ac (fM (IntKind.wrap IntKind.i64 ((iZ n i0)+((1+length (map bc (ah n.aa i0).aj):Nat):Int)))) (ac (dwr (z:=((1+length (map bc (ah n.aa i0).aj):Nat):Int)) (by omega) (by omega)) (ac (bR ak (l:=n.aa) (i:=i0) (by omega)) a0)))
 (an (ac (dwr (z:= ↑(i0+1)) (by omega) (by omega)) a0)
 (lf (wy (UT n i0) 0) 0 ⟨(show US n i0=false from rfl),congrArg (fun y0:Int=>([(1,.pf (aR n)),(3,I y0),(7,I (length (map ak n.aa):Int)),(8,I ↑(i0+1))]:Am.Loc)) (show iZ n (i0+1)=(IntKind.wrap IntKind.i64 ((iZ n i0)+((1+length (map bc (ah n.aa i0).aj):Nat):Int))) from rfl).symm,rfl⟩))))))
 (by kernel_rfl)
theorem vx6_0 (n:Net) (hf:j0 n):vcC pg 30 base aO 3000 (kbL []) UP (bu (Ma n (zG n))) (bA (UR n (zG n))) 0 (bQ [⟨True,(.exit 0),Dh n,range 0,JV n⟩]) zE:=
 have hr:=hf.rules;have hs:=hf.aa;have l1:=aW ak (n.aa);have hb:(zO n)=false:=decide_eq_false (by omega);
 aZ (an (a1 a0)
 (an hb (lf (wy [⟨True,(.exit 0),Dh n,range 0,JV n⟩] 0) 0 trivial)))
 (by kernel_rfl)
theorem WY (n:Net) (i0:Nat):(UT n i0).all zr=true:=(aF (aQ rfl rfl rfl (by simp (maxDischargeDepth:=9) [nxW,Ma,plS,AV.pure]) rfl) bD)
theorem WZ (n:Net):bj.b8 0 ⟨True,(.exit 0),Dh n,range 0,JV n⟩=true:=(aQ rfl rfl rfl (by simp (maxDischargeDepth:=9) [Dh,plS,AV.pure]) rfl)
theorem W0 (n:Net) (hf:j0 n):dg pg 30 0 0 (.loop UP) (Nw n):=
 have hr:=hf.rules;have hs:=hf.aa;mj (fun _=>e9 (id:=0) (m:=length n.aa) (t:=US n) (xr:= .ret) (xn:=(.exit 0)) (Lr:=Nv n) (Lx:=Dh n) (obr:=X4 n) (obx:=JV n) (V:=fun i0=>vcC pg 30 base aO 3000 (kbL []) UP) (Ma n) (UR n) 0 (UT n) (G6_0 n) _ _ (fun i0 hx0=>aS aw mixed (az _)) (aS aw mixed (az _)) (fun e=>by cases e) (fun e=>by cases e) (fun _=>rfl) (fun i0 hx0=>vc6_0 n i0 hf hx0) (fun i0 _=>WY n i0) (fun i0 _=>show∀ww∈UT n i0,cy _ _ _ _ _ _ ww from (aG cg bG)) (vx6_0 n hf) (WZ n)) (fun _=>rfl) rfl (fun h=>h)
def r6 (n:Net):Bool:=((decide ((iZ n (length n.aa))>1200))||decide ((length (map aD n.rules):Int)>60))
theorem DN:dB [0] (aH 6)=[(0,.loop UP)]:=by kernel_rfl
theorem UU (n:Net) (hf:j0 n):ba pg 6 [.ag (aR n)] [] [] (B (r6 n)) []:=
 bB (fn:=Tryz.f6) (callf:=base) (pu:=aO) (lf:=3000) (l:=[(0,Nw n)]) (t:=(.r [bT] (.r [bT] (.r [bT] (.no (.a (.r (.k::uFF 4 [bT]) .nil) (.r (.k::uTT 4 [.k,bT]) .nil))))))) aw mixed Tryz.func6 (by kernel_rfl) (show Tryz.f6.body=some (aH 6) by kernel_rfl) (Nat.le_of_ble_eq_true rfl) (bO (l:=[(0,Nw n)]) DN (aV (W0 n hf) rfl bn) rfl) rfl (aZ
 (an a0
 (an a0
 (an a0
 (an (kbT (Nw n) trivial) (an (rfl:false=false) (aP (fun (h0:(decide ((iZ n (length n.aa))>1200))=true)=>
 (an (aN 3 (ac (n2 h0) (a1 a0)))
 (bE (show r6 n=true from (orT h0))))) (fun h0=>
 (an (aN 4 (ac (au h0) (a1 a0)))
 (bE (show r6 n=(decide ((length (map aD n.rules):Int)>60)) from (orF h0 rfl)))))))))))
 (by kernel_rfl))
theorem JW {α:Type} [Inhabited α] {l:List α} {x:α} (h:x∈l): ∃j,j<l.length/\ah l j=x:=by
 obtain ⟨j,hj,e⟩:=List.mem_iff_getElem.1 h
 exact ⟨j,hj,by simp [ah,hj,e]⟩
theorem sum6 (n:Net) (hf:j0 n) (h4:n.aa.length<=4000) (i:Nat) (hi:i<=n.aa.length):(i:Int)<=iZ n i/\iZ n i<=(i:Int)*1100000000000/\ ∀j,j<i->((ah n.aa j).aj.length:Int)<=iZ n i:=by
 induction i with
 |zero=>exact ⟨Int.le_refl _,Int.le_refl _,fun j hj=>by omega⟩
 |succ i ih=>
  obtain ⟨h1,h2,h3⟩:=ih (by omega)
  have he:=(hf.aj _ (ay (show i<n.aa.length by omega))).1
  have e:iZ n (i+1)=iZ n i+(1+((ah n.aa i).aj.length:Int)):=by
   show UQ n i (iZ n i)=_
   unfold UQ
   rw [aW,wrap_i64 (by omega) (by omega)]
   omega
  refine ⟨by omega,by omega,fun j hj=> ?_⟩
  rcases Nat.lt_or_ge j i with h|h
  ·have:=h3 j h;omega
  ·have:j=i:=by omega
   subst this;omega
theorem fitOf {n:Net} (hf:j0 n) (h4:n.aa.length<=4000) (h6:r6 n=false):bg n:=by
 unfold r6 at h6
 simp only [Bool.or_eq_false_iff,decide_eq_false_iff_not,aW] at h6
 obtain ⟨-,-,h3⟩:=sum6 n hf h4 _ (Nat.le_refl _)
 refine ⟨hf.types,hf.n0,hf.cH,by omega,by omega,fun s hs=> ?_,fun s hs e he=>((hf.aj s hs).2 e he).fit⟩
 obtain ⟨j,hj,rfl⟩:=JW hs
 have:=h3 j hj
 omega
theorem fitX {n:Net} (hf:j0 n):lL n:=⟨fun s hs e he=>((hf.aj s hs).2 e he).fit.op,fun s hs e he=>((hf.aj s hs).2 e he).set⟩
theorem fitH {n:Net} (hf:j0 n) (h6:r6 n=false):jg n:=by
 unfold r6 at h6
 simp only [Bool.or_eq_false_iff,decide_eq_false_iff_not,aW] at h6
 exact ⟨hf.types,hf.n0,hf.cH,by omega⟩
theorem Pu:runJ 3000 60 7 [] .e 0 ⟨0,[],[]⟩= .ret (.v (.bool true)) .e 0 ⟨0,[],[]⟩:=by kernel_rfl
theorem FD:ba pg 7 [] [] [] (.v (.bool true)) []:=KG (MD _ _) Pu rfl
theorem e8A {n:Net} (hx:lL n) (h:((r11 n) !=0)=true):r8 n= .v (.slice none 0 0):=by unfold r8;rw [HK hx,h];rfl
theorem e9A {n:Net} (h:((r11 n) !=0)=true):r9 n= .v (.slice none 0 0):=by unfold r9;rw [h];rfl
theorem e8B {n:Net} (hx:lL n) (h:((r11 n) !=0)=false):r8 n= .sl 1 ((r25 n).map aq):=by
 have h0:r11 n=0:=by simpa using h
 have hn:=L9 h
 have ho:Own n:=by
  unfold r11 at h0
  cases h1:r31 n with
  |false=>rw [h1] at h0;cases h0
  |true=>
   cases h2:r32 n with
   |false=>rw [h1,h2] at h0;cases h0
   |true=>
    cases h3:r33 n with
    |false=>rw [h1,h2,h3] at h0;cases h0
    |true=>exact X1 h2 h3
 unfold r8
 rw [HK hx,h,Np hn ho.ne];rfl
theorem c10y {n:Net} (hf:bg n) (hx:lL n):ba pg 10 [.ag (aR n)] [] [] (I (r11 n)) []:=by have h:=xw n hf;rw [HK hx] at h;exact h
theorem c8 {n:Net} (hf:bg n) (hx:lL n) {v:AV} (e:r8 n=v):ba pg 8 [.ag (aR n)] [] [] v []:=by have h:=aaL n hf hx;rw [e] at h;exact h
theorem c9 {n:Net} (hf:bg n) {v:AV} (e:r9 n=v):ba pg 9 [.ag (aR n)] [] [] v []:=by have h:=aaK n hf;rw [e] at h;exact h
theorem e9B {n:Net} (h:((r11 n) !=0)=false):r9 n= .sl 1 ((r25 n).map aq):=by unfold r9;rw [h];rfl
def i6 (n:Net):b9:=⟨6,[fY n],B (r6 n),j0 n⟩
theorem g6 (n:Net):(i6 n).cd pg:=fun hp=>⟨UU n hp,by simp [i6,ae],by simp [i6,AV.pure]⟩
def i7:b9:=⟨7,[],B true,True⟩
theorem g7:(i7).cd pg:=fun hp=>⟨FD,by simp [i7,ae],by simp [i7,AV.pure]⟩
def UW (n:Net):b9:=⟨10,[fY n],I (r11 n),bg n/\lL n⟩
theorem Pv (n:Net):(UW n).cd pg:=fun hp=>⟨(c10y hp.1 hp.2),by simp [UW,ae],by simp [UW,AV.pure]⟩
def UX (n:Net):b9:=⟨11,[fY n],I (r11 n),bg n⟩
theorem Pw (n:Net):(UX n).cd pg:=fun hp=>⟨M9 n hp,by simp [UX,ae],by simp [UX,AV.pure]⟩
def i8a (n:Net):b9:=⟨8,[fY n],.v (.slice none 0 0),bg n/\lL n/\(zCW n)=true⟩
theorem g8a (n:Net):(i8a n).cd pg:=fun hp=>⟨(c8 hp.1 hp.2.1 (e8A hp.2.1 hp.2.2)),by simp [i8a,ae],by simp [i8a,AV.pure]⟩
def i9a (n:Net):b9:=⟨9,[fY n],.v (.slice none 0 0),bg n/\(zCW n)=true⟩
theorem g9a (n:Net):(i9a n).cd pg:=fun hp=>⟨(c9 hp.1 (e9A hp.2)),by simp [i9a,ae],by simp [i9a,AV.pure]⟩
def r3a (n:Net):Bool:=((r6 n)||(!((r11 n) !=(r11 n))))
abbrev zCH:GT:=(.r (.int 4::.int 5::.k::uFF 5 [bT]) zD)
abbrev zCM:List Gi:=(.int 4::.int 5::.k::uTT 5 [.k,bT])
theorem law3a (n:Net) (hm:j0 n) (hf:bg n) (hx:lL n) (hA:(zCW n)=true):ba pg 3 [.ag (aR n)] [] [] (B (r3a n)) []:=
 bB (fn:=Tryz.f3) (callf:=(bC [i6 n,i7,i8a n,i9a n,UW n,UX n] base)) (pu:=aO) (lf:=3000) (l:=[]) (t:=(.r [bT] (.r [.int 0,bT] (.br zBC (.r [.int 2,.int 3,bT] (.a zCH (.r zCM (.r [bT] (.more (.r [.k,bT] zBC)))))))))) (bf (.cons (g6 n) rfl (.cons g7 rfl (.cons (g8a n) rfl (.cons (g9a n) rfl (.cons (Pv n) rfl (.cons (Pw n) rfl cv.nil)))))) aw) mixed Tryz.func3 (by kernel_rfl) (show Tryz.f3.body=some (aH 3) by kernel_rfl) (Nat.le_of_ble_eq_true rfl) (az _) rfl (aZ
 (an a0
 (an (cA (g6 n) hm a0)
 (brP (fun (h0:(r6 n)=true)=>
 (an (cA g7 trivial a0)
 (bE (show r3a n=true from (orT h0))))) (fun h0=>
 (an (cA (g9a n) ⟨hf,hA⟩ (cA (g8a n) ⟨hf,hx,hA⟩ a0))
 (aP (fun (h1:((r11 n) !=(r11 n))=true)=>
 (an (aN 4 (ac (n2 h1) (a1 (cA (Pw n) hf (cA (Pv n) ⟨hf,hx⟩ a0)))))
 (an a0
 (bE (show r3a n=false from (orF h0 (cx h1))))))) (fun h1=>
 (an (aN 5 (ac (au h1) (a1 (cA (Pw n) hf (cA (Pv n) ⟨hf,hx⟩ a0)))))
 (an a0
 (an (a1 a0)
 (an (cA g7 trivial a0)
 (bE (show r3a n=true from (orF h0 (au h1)))))))))))))))
 (by kernel_rfl))
def i8b (n:Net):b9:=⟨8,[fY n],.sl 1 ((r25 n).map aq),bg n/\lL n/\(zCW n)=false⟩
theorem g8b (n:Net):(i8b n).cd pg:=fun hp=>⟨(c8 hp.1 hp.2.1 (e8B hp.2.1 hp.2.2)),by simp [i8b,ae],by simp [i8b,AV.pure]⟩
def i9b (n:Net):b9:=⟨9,[fY n],.sl 1 ((r25 n).map aq),bg n/\(zCW n)=false⟩
theorem g9b (n:Net):(i9b n).cd pg:=fun hp=>⟨(c9 hp.1 (e9B hp.2)),by simp [i9b,ae],by simp [i9b,AV.pure]⟩
def JX:Code:=bV 0 (aH 3)
def xy (n:Net) (i0:Nat):Am.Loc:=[(3,.sl 1 (zBo n)),(4,.sl 1 (zBo n)),(26,I (length (zBo n):Int)),(27,I (i0:Int))]
def FE (n:Net) (i0:Nat):List Ob:=[]
def ui (n:Net) (i0:Nat):Bool:=(!((ah (r25 n) i0)==(ah (r25 n) i0)))
def yP (n:Net):Bool:=dh (length (r25 n)) (ui n)
def Di (n:Net) (i0:Nat):Am.Loc:=[(2,B false)]
def Mb (n:Net) (i0:Nat):List Ob:=[]
def rE (n:Net):Am.Loc:=[]
def Dj (n:Net):List Ob:=[]
def HM (n:Net):KB:=⟨xy n 0,FE n 0,yP n,.ret,Di n (cc (length (r25 n)) (ui n)),Mb n (cc (length (r25 n)) (ui n)),.normal,rE n,Dj n,True⟩
def FF (n:Net) (i0:Nat):List bj:=[htW (ui n i0) .ret (Di n i0) za (Mb n i0),nxW (ui n i0) (xy n (i0+1)) (FE n (i0+1)) (xy n (i0+1)) za (FE n (i0+1))]
def X5 (n:Net) (i0:Nat):GT:=(.r [.k,bT] (.yes (.r [bT] (.r [.row (aq (ah (r25 n) i0)),.row (aq (ah (r25 n) i0)),.k,bT] (.br (.r [bT] (.pick 0)) (.r [.int ↑(i0+1),bT] (.pick 1)))))))
theorem aaQ (n:Net) (i0:Nat) (_:j0 n) (hf:bg n) (_:lL n) (_:(zCW n)=false) (hx0:i0<(length (r25 n))):vcC pg 41 base aO 3000 (kbL []) JX (bu (xy n i0)) (bA (FE n i0)) 0 (bQ (FF n i0)) (X5 n i0):=
 have hr:=hf.rules;have hrl:=kA n;have l1:=aW aq ((r25 n));have hb:(decide ((i0:Int)<(length (map aq (r25 n)):Int)))=true:=decide_eq_true (by omega);
 aZ (an (a1 a0)
 (an hb (an a0
 (an (a1 (ac (bR aq (l:=r25 n) (i:=i0) (by omega)) (ac (bR aq (l:=r25 n) (i:=i0) (by omega)) a0)))
 (brP (fun (h1:(!((ah (r25 n) i0)==(ah (r25 n) i0)))=true)=>
 (an a0
 (lf (wy (FF n i0) 0) 0 (show ui n i0=true from h1)))) (fun h1=>
 (an (ac (dwr (z:= ↑(i0+1)) (by omega) (by omega)) a0)
 (lf (wy (FF n i0) 1) 0 ⟨(show ui n i0=false from h1),rfl,rfl⟩))))))))
 (by kernel_rfl)
theorem aaR (n:Net) (_:j0 n) (hf:bg n) (_:lL n) (_:(zCW n)=false):vcC pg 41 base aO 3000 (kbL []) JX (bu (xy n (length (r25 n)))) (bA (FE n (length (r25 n)))) 0 (bQ [⟨True,(.exit 0),rE n,range 0,Dj n⟩]) zE:=
 have hr:=hf.rules;have hrl:=kA n;have l1:=aW aq ((r25 n));have hb:(decide ((((length (r25 n)):Nat):Int)<(length (map aq (r25 n)):Int)))=false:=decide_eq_false (by omega);
 aZ (an (a1 a0)
 (an hb (lf (wy [⟨True,(.exit 0),rE n,range 0,Dj n⟩] 0) 0 trivial)))
 (by kernel_rfl)
theorem UY (n:Net) (i0:Nat):(FF n i0).all zr=true:=by refine (aF (aQ rfl rfl rfl ?_ rfl) (aF (aQ rfl rfl rfl ?_ rfl) bD))<;>simp (maxDischargeDepth:=9) [nxW,htW,xy,Di,plS,AV.pure]
theorem UZ (n:Net):bj.b8 0 ⟨True,(.exit 0),rE n,range 0,Dj n⟩=true:=(aQ rfl rfl rfl rfl rfl)
theorem U0 (n:Net) (hm:j0 n) (hf:bg n) (hx:lL n) (hA:(zCW n)=false):dg pg 41 0 0 (.loop JX) (HM n):=
 have hr:=hf.rules;have hrl:=kA n;bZ (fun _=>e9 (id:=0) (m:=length (r25 n)) (t:=ui n) (xr:= .ret) (xn:=(.exit 0)) (Lr:=Di n) (Lx:=rE n) (obr:=Mb n) (obx:=Dj n) (V:=fun i0=>vcC pg 41 base aO 3000 (kbL []) JX) (xy n) (FE n) 0 (FF n) (X5 n) _ _ (fun i0 hx0=>aS aw mixed (az _)) (aS aw mixed (az _)) (fun e=>by cases e) (fun e=>by cases e) (fun _=>rfl) (fun i0 hx0=>aaQ n i0 hm hf hx hA hx0) (fun i0 _=>UY n i0) (fun i0 _=>show∀ww∈FF n i0,cy _ _ _ _ _ _ ww from (aG da (aG cg bG))) (aaR n hm hf hx hA) (UZ n)) (fun h=>h) (fun h=>h)
def r3b (n:Net):Bool:=((r6 n)||(!((r11 n) !=(r11 n))&&(!((length (map aq (r25 n)):Int) !=(length (map aq (r25 n)):Int))&&(!(yP n)))))
theorem Dk:dB [0] (aH 3)=[(0,.loop JX)]:=by kernel_rfl
theorem law3b (n:Net) (hm:j0 n) (hf:bg n) (hx:lL n) (hA:(zCW n)=false):ba pg 3 [.ag (aR n)] [] [] (B (r3b n)) []:=
 bB (fn:=Tryz.f3) (callf:=(bC [i6 n,i7,i8b n,i9b n,UW n,UX n] base)) (pu:=aO) (lf:=3000) (l:=[(0,HM n)]) (t:=(.r [bT] (.r [.int 0,bT] (.br zBC (.r [.int 2,.int 3,bT] (.a zCH (.r zCM (.br zD (.r [bT] (.br .nil zBC)))))))))) (bf (.cons (g6 n) rfl (.cons g7 rfl (.cons (g8b n) rfl (.cons (g9b n) rfl (.cons (Pv n) rfl (.cons (Pw n) rfl cv.nil)))))) aw) mixed Tryz.func3 (by kernel_rfl) (show Tryz.f3.body=some (aH 3) by kernel_rfl) (Nat.le_of_ble_eq_true rfl) (bO (l:=[(0,HM n)]) Dk (aV (U0 n hm hf hx hA) rfl bn) rfl) rfl (aZ
 (an a0
 (an (cA (g6 n) hm a0)
 (brP (fun (h0:(r6 n)=true)=>
 (an (cA g7 trivial a0)
 (bE (show r3b n=true from (orT h0))))) (fun h0=>have q0:=(orF h0 rfl:r3b n=_);
 (an (cA (g9b n) ⟨hf,hA⟩ (cA (g8b n) ⟨hf,hx,hA⟩ a0))
 (aP (fun (h1:((r11 n) !=(r11 n))=true)=>
 (an (aN 4 (ac (n2 h1) (a1 (cA (Pw n) hf (cA (Pv n) ⟨hf,hx⟩ a0)))))
 (an a0
 (bE (q0.trans (aY (cx h1))))))) (fun h1=>have q1:=q0.trans (aE (au h1) rfl);
 (an (aN 5 (ac (au h1) (a1 (cA (Pw n) hf (cA (Pv n) ⟨hf,hx⟩ a0)))))
 (brP (fun (h2:((length (map aq (r25 n)):Int) !=(length (map aq (r25 n)):Int))=true)=>
 (an a0
 (bE (q1.trans (aY (cx h2)))))) (fun h2=>have q2:=q1.trans (aE (au h2) rfl);
 (an a0
 (an (kbT (HM n) trivial) (brP (fun (h3:(yP n)=true)=>
 (bE (q2.trans (cx h3)))) (fun h3=>
 (an (cA g7 trivial a0)
 (bE (q2.trans (au h3))))))))))))))))))
 (by kernel_rfl))
theorem U1 (n:Net):r3a n=true:=by unfold r3a;simp
theorem U2 (n:Net):r3b n=true:=by
 have h:yP n=false:=bL.2 fun i _=>by unfold ui;simp
 unfold r3b
 rw [h];simp
theorem law3 (n:Net) (hm:j0 n) (hf:bg n) (hx:lL n):ba pg 3 [.ag (aR n)] [] [] (B true) []:=by
 cases h:((r11 n) !=0) with
 |true=>have:=law3a n hm hf hx h;rw [U1] at this;exact this
 |false=>have:=law3b n hm hf hx h;rw [U2] at this;exact this
theorem k31h {n:Net} (h:jg n/\r31 n=false):ba pg 31 [.ag (aR n)] [] [] (B false) []:=by have:=MY n h.1;rw [h.2] at this;exact this
theorem k26h {n:Net} (h:jg n/\r31 n=false):ba pg 26 [.pf (aR n)] [] [] (B false) []:=by have:=MZ n h.1;rw [UJ,h.2] at this;exact this
def i31h (n:Net):b9:=⟨31,[fY n],B false,jg n/\r31 n=false⟩
theorem g31h (n:Net):(i31h n).cd pg:=fun hp=>⟨k31h hp,by simp [i31h,ae],by simp [i31h,AV.pure]⟩
def i26h (n:Net):b9:=⟨26,[.pf (aR n)],B false,jg n/\r31 n=false⟩
theorem g26h (n:Net):(i26h n).cd pg:=fun hp=>⟨k26h hp,by simp [i26h,ae,AV.pure],by simp [i26h,AV.pure]⟩
def r11h (n:Net):Int:=110
theorem U3 (n:Net) (hh:jg n) (hA:r31 n=false):ba pg 11 [.ag (aR n)] [] [] (I (r11h n)) []:=
 bB (fn:=Tryz.f11) (callf:=(bC [i31h n] base)) (pu:=aO) (lf:=3000) (l:=[]) (t:=(.r [bT] zAz)) (bf (.cons (g31h n) rfl cv.nil) aw) mixed Tryz.func11 (by kernel_rfl) (show Tryz.f11.body=some (aH 11) by kernel_rfl) (Nat.le_of_ble_eq_true rfl) (az _) rfl (aZ
 (an a0
 (an (aN 6 (cA (g31h n) ⟨hh,hA⟩ a0))
 (an a0
 (iE (show r11h n=110 from rfl)))))
 (by kernel_rfl))
def r10h (n:Net):Int:=110
theorem U4 (n:Net) (hh:jg n) (hA:r31 n=false):ba pg 10 [.ag (aR n)] [] [] (I (r10h n)) []:=
 bB (fn:=Tryz.f10) (callf:=(bC [i26h n] base)) (pu:=aO) (lf:=3000) (l:=[]) (t:=(.r [bT] zAz)) (bf (.cons (g26h n) rfl cv.nil) aw) mixed Tryz.func10 (by kernel_rfl) (show Tryz.f10.body=some (aH 10) by kernel_rfl) (Nat.le_of_ble_eq_true rfl) (az _) rfl (aZ
 (an a0
 (an (aN 6 (cA (g26h n) ⟨hh,hA⟩ a0))
 (an a0
 (iE (show r10h n=110 from rfl)))))
 (by kernel_rfl))
def U5 (n:Net):b9:=⟨11,[fY n],I 110,jg n/\r31 n=false⟩
theorem g11q (n:Net):(U5 n).cd pg:=fun hp=>⟨(U3 n hp.1 hp.2),by simp [U5,ae],by simp [U5,AV.pure]⟩
def U6 (n:Net):b9:=⟨10,[fY n],I 110,jg n/\r31 n=false⟩
theorem g10q (n:Net):(U6 n).cd pg:=fun hp=>⟨(U4 n hp.1 hp.2),by simp [U6,ae],by simp [U6,AV.pure]⟩
def r9h (n:Net):AV:= .v (.slice none 0 0)
theorem W1 (n:Net) (hh:jg n) (hA:r31 n=false):ba pg 9 [.ag (aR n)] [] [] (r9h n) []:=
 bB (fn:=Tryz.f9) (callf:=(bC [U5 n] base)) (pu:=aO) (lf:=3000) (l:=[]) (t:=(.r [bT] (.r [.int 0,.k,bT] zD))) (bf (.cons (g11q n) rfl cv.nil) aw) mixed Tryz.func9 (by kernel_rfl) (show Tryz.f9.body=some (aH 9) by kernel_rfl) (Nat.le_of_ble_eq_true rfl) (az _) rfl (aZ
 (an a0
 (an (a1 (cA (g11q n) ⟨hh,hA⟩ a0))
 (an a0
 (vE (show r9h n=(.v (.slice none 0 0)) from rfl)))))
 (by kernel_rfl))
def r8h (n:Net):AV:= .v (.slice none 0 0)
theorem W2 (n:Net) (hh:jg n) (hA:r31 n=false):ba pg 8 [.ag (aR n)] [] [] (r8h n) []:=
 bB (fn:=Tryz.f8) (callf:=(bC [U6 n] base)) (pu:=aO) (lf:=3000) (l:=[]) (t:=(.r [bT] (.r [.int 0,.k,bT] zD))) (bf (.cons (g10q n) rfl cv.nil) aw) mixed Tryz.func8 (by kernel_rfl) (show Tryz.f8.body=some (aH 8) by kernel_rfl) (Nat.le_of_ble_eq_true rfl) (az _) rfl (aZ
 (an a0
 (an (a1 (cA (g10q n) ⟨hh,hA⟩ a0))
 (an a0
 (vE (show r8h n=(.v (.slice none 0 0)) from rfl)))))
 (by kernel_rfl))
def i9q (n:Net):b9:=⟨9,[fY n],.v (.slice none 0 0),jg n/\r31 n=false⟩
theorem g9q (n:Net):(i9q n).cd pg:=fun hp=>⟨(W1 n hp.1 hp.2),by simp [i9q,ae],by simp [i9q,AV.pure]⟩
def i8q (n:Net):b9:=⟨8,[fY n],.v (.slice none 0 0),jg n/\r31 n=false⟩
theorem g8q (n:Net):(i8q n).cd pg:=fun hp=>⟨(W2 n hp.1 hp.2),by simp [i8q,ae],by simp [i8q,AV.pure]⟩
theorem k6 {n:Net} {b:Bool} (hm:j0 n) (h:r6 n=b):ba pg 6 [.ag (aR n)] [] [] (B b) []:=by have:=UU n hm;rw [h] at this;exact this
def i7q:b9:=⟨7,[],B true,True⟩
theorem g7q:(i7q).cd pg:=fun hp=>⟨FD,by simp [i7q,ae],by simp [i7q,AV.pure]⟩
def i6t (n:Net):b9:=⟨6,[fY n],B true,j0 n/\r6 n=true⟩
theorem g6t (n:Net):(i6t n).cd pg:=fun hp=>⟨(k6 hp.1 hp.2),by simp [i6t,ae],by simp [i6t,AV.pure]⟩
def r3g (n:Net):Bool:=true
theorem law3g (n:Net) (hm:j0 n) (h6:r6 n=true):ba pg 3 [.ag (aR n)] [] [] (B (r3g n)) []:=
 bB (fn:=Tryz.f3) (callf:=(bC [i6t n,i7q] base)) (pu:=aO) (lf:=3000) (l:=[]) (t:=(.r [bT] (.r [.int 0,bT] zBC))) (bf (.cons (g6t n) rfl (.cons g7q rfl cv.nil)) aw) mixed Tryz.func3 (by kernel_rfl) (show Tryz.f3.body=some (aH 3) by kernel_rfl) (Nat.le_of_ble_eq_true rfl) (az _) rfl (aZ
 (an a0
 (an (cA (g6t n) ⟨hm,h6⟩ a0)
 (an (cA g7q trivial a0)
 (bE (show r3g n=true from rfl)))))
 (by kernel_rfl))
def i6f (n:Net):b9:=⟨6,[fY n],B false,j0 n/\r6 n=false⟩
theorem g6f (n:Net):(i6f n).cd pg:=fun hp=>⟨(k6 hp.1 hp.2),by simp [i6f,ae],by simp [i6f,AV.pure]⟩
def r3h (n:Net):Bool:=true
theorem law3h (n:Net) (hm:j0 n) (h6:r6 n=false) (hh:jg n) (hA:r31 n=false):ba pg 3 [.ag (aR n)] [] [] (B (r3h n)) []:=
 bB (fn:=Tryz.f3) (callf:=(bC [i6f n,i8q n,i9q n,U6 n,U5 n,i7q] base)) (pu:=aO) (lf:=3000) (l:=[]) (t:=(.r [bT] (.r [.int 0,bT] (.r [.int 1,.int 2,bT] (.r (.int 3::.int 4::.k::uTT 5 [.k,bT]) (.r [bT] (.more (.r [.k,bT] (.r [.int 5,bT] .nil))))))))) (bf (.cons (g6f n) rfl (.cons (g8q n) rfl (.cons (g9q n) rfl (.cons (g10q n) rfl (.cons (g11q n) rfl (.cons g7q rfl cv.nil)))))) aw) mixed Tryz.func3 (by kernel_rfl) (show Tryz.f3.body=some (aH 3) by kernel_rfl) (Nat.le_of_ble_eq_true rfl) (az _) rfl (aZ
 (an a0
 (an (cA (g6f n) ⟨hm,h6⟩ a0)
 (an (cA (g9q n) ⟨hh,hA⟩ (cA (g8q n) ⟨hh,hA⟩ a0))
 (an (aN 7 (cA (g11q n) ⟨hh,hA⟩ (cA (g10q n) ⟨hh,hA⟩ a0)))
 (an a0
 (an (a1 a0)
 (an (cA g7q trivial a0)
 (bE (show r3h n=true from rfl)))))))))
 (by kernel_rfl))
theorem big31 {n:Net} (h:4000<n.aa.length):r31 n=false:=by
 unfold r31
 simp only [aW]
 rw [show decide ((n.aa.length:Int)>4000)=true from decide_eq_true (by omega)]
 simp
theorem U7 (n:Net) (hm:j0 n):ba pg 3 [.ag (aR n)] [] [] (B true) []:=by
 cases h6:r6 n with
 |true=>exact law3g n hm h6
 |false=>
  by_cases h4:n.aa.length<=4000
  ·exact law3 n hm (fitOf hm h4 h6) (fitX hm)
  ·have h:=law3h n hm h6 (fitH hm h6) (big31 (by omega))
   exact h
open Go.ChangeShapes Go.WideShapes Go.ChangeAt Go.RowKit
theorem own:ownKnob Tryz.prog.godebug=none:=by kernel_rfl
def lay (l:List Value):Obj->Obj
 | .cells _ t frozen=> .cells l.toArray t frozen
 |o=>o
noncomputable def wh (os:Os):World:=
 {World.holding Tryz.prog os ⟨#[],#[],[]⟩ with heap:=(((World.holding Tryz.prog os ⟨#[],#[],[]⟩).heap.modify 0 (lay [.int .u64 1,.int .u64 10,.int .u64 100,.int .u64 1000,.int .u64 10000,.int .u64 100000,.int .u64 1000000,.int .u64 10000000,.int .u64 100000000,.int .u64 1000000000,.int .u64 10000000000,.int .u64 100000000000,.int .u64 1000000000000,.int .u64 10000000000000,.int .u64 100000000000000,.int .u64 1000000000000000,.int .u64 10000000000000000,.int .u64 100000000000000000,.int .u64 1000000000000000000,.int .u64 10000000000000000000])).modify 2 (lay [.int .u8 0,.int .u8 1,.int .u8 28,.int .u8 2,.int .u8 29,.int .u8 14,.int .u8 24,.int .u8 3,.int .u8 30,.int .u8 22,.int .u8 20,.int .u8 15,.int .u8 25,.int .u8 17,.int .u8 4,.int .u8 8,.int .u8 31,.int .u8 27,.int .u8 13,.int .u8 23,.int .u8 21,.int .u8 19,.int .u8 16,.int .u8 7,.int .u8 26,.int .u8 12,.int .u8 18,.int .u8 6,.int .u8 11,.int .u8 5,.int .u8 10,.int .u8 9])).modify 3 (lay [.int .u8 0,.int .u8 1,.int .u8 56,.int .u8 2,.int .u8 57,.int .u8 49,.int .u8 28,.int .u8 3,.int .u8 61,.int .u8 58,.int .u8 42,.int .u8 50,.int .u8 38,.int .u8 29,.int .u8 17,.int .u8 4,.int .u8 62,.int .u8 47,.int .u8 59,.int .u8 36,.int .u8 45,.int .u8 43,.int .u8 51,.int .u8 22,.int .u8 53,.int .u8 39,.int .u8 33,.int .u8 30,.int .u8 24,.int .u8 18,.int .u8 12,.int .u8 5,.int .u8 63,.int .u8 55,.int .u8 48,.int .u8 27,.int .u8 60,.int .u8 41,.int .u8 37,.int .u8 16,.int .u8 46,.int .u8 35,.int .u8 44,.int .u8 21,.int .u8 52,.int .u8 32,.int .u8 23,.int .u8 11,.int .u8 54,.int .u8 26,.int .u8 40,.int .u8 15,.int .u8 34,.int .u8 20,.int .u8 31,.int .u8 10,.int .u8 25,.int .u8 14,.int .u8 19,.int .u8 9,.int .u8 13,.int .u8 8,.int .u8 7,.int .u8 6])}
open Go.ChangeShapes Go.WideShapes Go.ChangeAt Go.RowKit Go.Am
theorem kids:Nt Tryz.prog=true:=by kernel_rfl
theorem U8 (W:World): ∀a x,Dm a=some x->W.cell? a=some x:=fun a x h=>by simp [Dm,Px] at h;split at h<;>cases h
set_option maxRecDepth 100000 in
theorem U9 (H:Type) (enc:TypeId×Value->H) (W:World) (base:Nat) (args:Array Value) (ds gs:List (DataW H)) (before:List MemPlace)
  (hval: ∀(j:Nat) t v,Tryz.f3.params[j]? =some t->args[j]? =some v->Value.okWide Tryz.prog W .any base t v)
  (hW:DataW.Whole enc Tryz.prog Tryz.f3.params.toList Rows.netChecksSpec.vars false W args.toList ds gs before)
  (hz: ∀w∈DataW.weightsEach Tryz.prog (Tryz.f3.params.toList++ []) (ds++gs),w<=reachBytes):
  Calls Tryz.prog 3 args W fun e W' => ∃v,e= .returned v/\Rows.netChecksSpec.post enc Tryz.prog Tryz.f3 false true false false W args v W' :=by
 have hW' :=hW
 obtain ⟨p,q,hA,hV,rfl,hfz,hnd⟩:=hW
 have hA' :DataW.TrodAll enc Tryz.prog W 0 (fun _=>true) true Tryz.f3.params.toList args.toList ds p:=hA
 rw [Tryz.params3] at hA' hval hz
 obtain ⟨v0,vs0,d0,ds0,p0,q0,hargs,rfl,rfl,h0,r0⟩:=trodAll_cons hA'
 obtain ⟨rfl,rfl,rfl⟩:=trodAll_nil r0
 obtain rfl:args= #[v0]:=by cases args;simp_all
 obtain ⟨t0,ft0,hr0⟩:=WX (hW:=U8 W) (hval 0 26 v0 rfl rfl) h0 fun w hw=>hz w (jh (i:=0) rfl rfl w hw)
 refine (DM (U7 t0 ft0) W (U8 W) (vs:=[v0]) ⟨_,_,rfl,hr0,rfl⟩).mono fun e W' ⟨he,hk⟩=> ?_
 subst he
 exact ⟨_,rfl,Ps hW' hk kids (by kernel_rfl) rfl (tb:=4) (by kernel_rfl) (by kernel_rfl) rfl rfl rfl⟩
theorem Va (os:Os):laidMet Tryz.prog Rows.netChecksRow.laid ((wh os).forCall (fun _ _=>0) ⟨#[],#[.agg #[.slice none 0 0,.slice none 0 0,.slice none 0 0,.slice none 0 0,.slice none 0 0]],[]⟩).memory:=
 laidMet_of_run' 8 (by kernel_rfl) (by kernel_rfl)
theorem reads (os:Os) {H:Type} (enc:TypeId×Value->H): ∃places,DataW.whole enc Tryz.prog ((wh os).forCall (fun _ _=>0) ⟨#[],#[.agg #[.slice none 0 0,.slice none 0 0,.slice none 0 0,.slice none 0 0,.slice none 0 0]],[]⟩).memory Tryz.f3.params.toList Rows.netChecksSpec.vars false #[.agg #[.slice none 0 0,.slice none 0 0,.slice none 0 0,.slice none 0 0,.slice none 0 0]].toList 8=some ([.agg [.nil,.nil,.nil,.nil,.nil]],[],places):=
 ⟨[],by kernel_rfl⟩
set_option maxRecDepth 100000 in
theorem lifted (os:Os) (started:os.Started) (H:Type) (enc:TypeId×Value->H) (F:Stop.Interp):
  ReturnsInHanded {} Tryz.checked os 3 .any ((OpenSpec.ofChange Rows.netChecksSpec).preRow enc Tryz.prog Tryz.f3 Rows.netChecksRow.domain false Rows.netChecksRow.laid) (((OpenSpec.ofChange Rows.netChecksSpec).at F).post enc Tryz.prog Tryz.f3 false true false false):=by
 obtain ⟨places,hx⟩:=reads os enc
 refine returnsInHanded_of_row (C:=Tryz.checked) (s:=OpenSpec.ofChange Rows.netChecksSpec) own started (by kernel_rfl) Tryz.func3
  (witness_row_at (enc:=enc) (C:=Tryz.checked) false (wh os) #[.agg #[.slice none 0 0,.slice none 0 0,.slice none 0 0,.slice none 0 0,.slice none 0 0]] rfl (by kernel_rfl) (by kernel_rfl) (by kernel_rfl)
   (OpenSpec.preRow_of_cond 8 hx (by kernel_rfl) (fun k hk=>by cases hk) (by kernel_rfl) (Va os))) ?_
 intro W base args ds gs before hval hW _ _ hz hL _ _
 exact U9 H enc W base args ds gs before hval hW fun w hw=>of_decide_eq_true (List.all_eq_true.1 hz w hw)
theorem said:Rows.NetChecksSaid:=
 OpenClaim.holds_of_cond 3 Tryz.f3 rfl rfl rfl rfl rfl rfl rfl ⟨rfl,rfl,rfl,rfl,rfl⟩ rfl rfl rfl rfl rfl (by kernel_rfl) Tryz.func3 (by kernel_rfl)
  (of_decide_eq_true (by kernel_rfl)) (by unfold Func.isWrapper;first|(rw [if_pos (by decide+kernel)];kernel_rfl)|(rw [if_neg (by decide+kernel)];exact ⟨rfl,rfl⟩))
  (fun os started H enc _ F=>by rw [OpenClaim.pre_eq_preRow];exact lifted os started H enc F)
theorem plain (f:FuncId) (fn:Func) (hf:Tryz.pinned.checked.prog.funcNamed "pollard/pollardlaw11.NetChecks" =some f) (hfn:Tryz.pinned.checked.prog.funcs[f]? =some fn):
  false=Tryz.pinned.checked.prog.looks []/\ ∀(j:Nat) t,fn.params[j]? =some t->Tryz.pinned.checked.prog.wantsStandIn t=false:=by
 obtain rfl:f=3:=Option.some.inj ((show Tryz.prog.funcNamed "pollard/pollardlaw11.NetChecks" =some 3 by kernel_rfl).symm.trans hf)|>.symm
 obtain rfl:fn=Tryz.f3:=(Option.some.inj (Tryz.func3.symm.trans hfn)).symm
 refine ⟨by kernel_rfl,fun j t ht=> ?_⟩
 rw [Tryz.params3] at ht
 have hm:t=26:=by simpa using Array.mem_of_getElem? ht
 subst hm
 exact (show Tryz.prog.wantsStandIn 26=false by kernel_rfl)
theorem netChecks_card:Rows.NetChecksCardSaid:=
 Claim7.holds_tied_plain_at .later [] _ _ _ _ said (fun _ h=>by cases h) (by kernel_rfl) (fun _ h=>by cases h) netChecks_row_tie rfl ⟨rfl,rfl⟩ (by kernel_rfl) rfl plain (by kernel_rfl)
end Go.Proofs.YtfkjfjalecikkaaGreatDoor
end
