/- An abstract machine, part W: what the program runs is so: regions, code, functions, deferred functions. An abstract machine, part Y: what the program runs is so: functions, deferred functions. An abstract machine, part Z: pieces of code, run by the evaluator from a state that is written out to another; loops over such states. An abstract machine, part Fz: an object becomes memory that is never written again; calls told by other values; calls that make objects, known ahead. An abstract machine, part Lp: a function that is one loop between what goes ahead and what is behind, by runs of its pieces. An abstract machine, part Sl: a call that is handed one live variable and reads it: from a run, from the same call on memory; known ahead. An abstract machine, part Fa: all objects that a call made become memory that is never written again. An abstract machine, part St: functions that are handed live objects, by runs of pieces; a call lifted to whatever objects there are. An abstract machine, part Ex: calls known on one store alone; functions that are handed live objects and are one loop. An abstract machine, part Pc: functions by pieces: a state told anew, loops that are left by a return, what is left of a function from a state on. strings.Join (the shelf's layings, in plain words), as a call that is known. An abstract machine, part Ns: ROWS OF ROWS THAT ARE ALL LIVE ('g[i] = append(g[i], x)'): however many. An abstract machine, part Au: what auto.py's theorems lean on. Nets as the machine sees them. An abstract machine, part Kb: KNOWN BLOCKS: code in which some blocks (loops within loops) are told by what they do to a state that is written out. An abstract machine, part Vc: WHAT MUST BE TRUE for code to end as is told, as one statement: what is common to several ways is run once. An abstract machine, part Vd: states told anew, ahead of a known block and behind it: a nil slice as an empty row; a row that is written no more as memory. -/
import Derived.Recover
import Derived.RangeFuncIn
import Derived.RangeFuncRecord
import Derived.Shelf.Strings.OnBuilder
import Derived.Test.YtfkjfjalecikkaaGreatDoorRows
import Derived.Test.YtfkjfjalecikkaaGreatDoorDB
noncomputable section
open List (length map range replicate)
namespace Go.Am
def SOk (P:Program) (n:Nat) (ops:Array Oper) (o:Oper) (L:Loc) (ob:List Ob) (O:Tri Ob) (tm:TM):SR->Prop
 | .fail=>True
 | .val rc M' O' N' tm' =>cx tm'.ok=true-> ∃ob',bV O' N' ob' /\cw M' (upd L rc)/\Sub rc.us L/\rc.dst=o.dst/\(∀d,o.dst=some d->d<n)/\iO P ops o rc ob ob' /\rc.ks=[]/\Kept O O' tm tm'
 | .pan av O' N' tm' =>cx tm'.ok=true-> ∃ob',bV O' N' ob' /\L8 P ops o L ob av ob' /\Kept O O' tm tm'
def ROk (P:Program) (n:Nat) (ops:Array Oper) (l:List Oper) (L:Loc) (ob:List Ob) (O:Tri Ob) (tm:TM):RR->Prop
 | .fail=>True
 | .ok recs M2 O2 N2 tm2=>cx tm2.ok=true-> ∃L2 ob2,cw M2 L2/\bV O2 N2 ob2/\Ev P n ops l recs L ob L2 ob2/\(∀rc∈recs,rc.ks=[])/\Kept O O2 tm tm2
 | .pan av M2 O2 N2 tm2=>cx tm2.ok=true-> ∃l1 o l2 recs L1 ob1 ob2,l=l1++o::l2/\Ev P n ops l1 recs L ob L1 ob1/\(∀rc∈recs,rc.ks=[])/\cw M2 L1/\bV O2 N2 ob2/\L8 P ops o L1 ob1 av ob2/\Kept O O2 tm tm2
section
variable {P:Program} {n:Nat} {callf:cI} {pu:FuncId->Bool}
theorem dv {ops:Array Oper} {M:Tri AV} {L gu:Loc} {O:Tri Ob} {N:Nat} {ob:List Ob} (hM:cw M L) (hO:bV O N ob) {o:Oper} (hg:Gd ops L o.guard gu) (hn: ∀d,o.dst=some d->d<n) (tm:TM):
  SOk P n ops o L ob O tm (gB M o.dst gu O N tm upT et (exec P (tev M) o O.get N)):=by
 rw [hM.tev,hO.fun,<-hO.1]
 cases hx:exec P (ba L) o (fun i=>ob[i]?) ob.length with
 |none=>trivial
 |some out=>
  obtain ⟨dst,op,ty,pos,after,guard⟩:=o
  obtain ⟨k1,k2,k3⟩:=CM (JI hg hn hx)
  obtain ⟨r,kd,d,xs⟩:=out
  have hO' :bV O ob.length ob:=hO.1▸hO
  have hra:=hO'.app d
  refine fun _=>⟨_,hra,?_,k1,rfl,hn,k3,rfl,fun i hi=>(sD hi).1,fun i hi=>HE (sD hi).2⟩
  exact hM.up dst r
theorem v8 {ops:Array Oper} {M:Tri AV} {L gu:Loc} {O:Tri Ob} {N:Nat} {ob:List Ob} (hM:cw M L) (hO:bV O N ob) {o:Oper} (hg:Gd ops L o.guard gu) (hn: ∀d,o.dst=some d->d<n) (tm:TM):
  SOk P n ops o L ob O tm (JA M o.dst gu O N tm upT et (exec P (tev M) o O.get N) (Hs P (tev M) o.op O.get N)):=by
 cases hc:Hs P (tev M) o.op O.get N with
 |none=>exact dv hM hO hg hn tm
 |some q=>
  obtain ⟨p,out⟩:=q
  have h1:=dv (P:=P) (n:=n) hM hO hg hn tm
  cases p with
  |false=>
   obtain ⟨r,kd,d,xs⟩:=out
   intro hok
   simp [TM.low,TM.asks,cx] at hok
  |true=>
   rw [Ns hc] at h1
   obtain ⟨r,kd,d,xs⟩:=out
   intro hok
   simp only [TM.low,TM.asks,cx,Bool.true_and] at hok
   exact h1 hok
theorem xT {ops:Array Oper} {M:Tri AV} {L gu:Loc} {O:Tri Ob} {N:Nat} {ob:List Ob} (hM:cw M L) (hO:bV O N ob) {o:Oper} (hg:Gd ops L o.guard gu) (hn: ∀d,o.dst=some d->d<n) (tm:TM) (g:Gi) (r:List Gi) {y:SR} (hy:SOk P n ops o L ob O tm y):
  SOk P n ops o L ob O tm (n6 M o.dst gu O N tm r upT et y (xF P (tev M) o.op O.get g)):=by
 cases hc:xF P (tev M) o.op O.get g with
 |none=>exact hy
 |some q=>
  obtain ⟨p,out⟩:=q
  have h1:=dv (P:=P) (n:=n) hM hO hg hn tm
  cases p with
  |false=>
   obtain ⟨r,kd,d,xs⟩:=out
   intro hok
   simp [TM.low,TM.told,cx] at hok
  |true=>
   rw [Jx hc] at h1
   obtain ⟨r,kd,d,xs⟩:=out
   intro hok
   simp only [TM.low,TM.told,cx,Bool.true_and] at hok
   exact h1 hok
theorem PH {ops:Array Oper} {M:Tri AV} {L gu:Loc} {O:Tri Ob} {N:Nat} {ob:List Ob} (hM:cw M L) (hO:bV O N ob) {o:Oper} {out:Out} (hn: ∀d,o.dst=some d->d<n) (tm:TM) (hS:Steps P n ops L gu o ob out):
  SOk P n ops o L ob O tm (gB M o.dst gu O N tm upT et (some out)):=by
 obtain ⟨dst,op,ty,pos,after,guard⟩:=o
 obtain ⟨k1,k2,k3⟩:=CM hS
 obtain ⟨r,kd,d,xs⟩:=out
 obtain rfl:=hO.1
 have hra:=hO.app d
 refine fun _=>⟨_,hra,?_,k1,rfl,hn,k3,rfl,fun i hi=>(sD hi).1,fun i hi=>HE (sD hi).2⟩
 exact hM.up dst r
theorem EK {ops:Array Oper} {M:Tri AV} {L gu:Loc} {O:Tri Ob} {N:Nat} {ob:List Ob} (hM:cw M L) (hO:bV O N ob) {o:Oper} (hg:Gd ops L o.guard gu) (hn: ∀d,o.dst=some d->d<n) (tm:TM) (g:Gi) (r:List Gi) {y:SR} (hy:SOk P n ops o L ob O tm y):
  SOk P n ops o L ob O tm (n6 M o.dst gu O N tm r upT et y (Jy P (tev M) o.type o.op O.get g)):=by
 cases hc:Jy P (tev M) o.type o.op O.get g with
 |none=>exact hy
 |some q=>
  obtain ⟨p,out⟩:=q
  cases p with
  |false=>
   obtain ⟨r,kd,d,xs⟩:=out
   intro hok
   simp [TM.low,TM.told,cx] at hok
  |true=>
   rw [hM.tev,hO.fun] at hc
   have hS:Steps P n ops L gu o ob out:=by
    obtain ⟨dst,op,ty,pos,after,guard⟩:=o
    exact JJ hg hn hc
   have h1:=PH (P:=P) (n:=n) hM hO hn tm hS
   obtain ⟨r,kd,d,xs⟩:=out
   intro hok
   simp only [TM.low,TM.told,cx,Bool.true_and] at hok
   exact h1 hok
theorem PJ (hcf:ct P callf) {ops:Array Oper} {M:Tri AV} {L gu:Loc} {O:Tri Ob} {N:Nat} {ob:List Ob} (hM:cw M L) (hO:bV O N ob) {x:Operand} {args:List Operand} {ts:Array TypeId} {dst:Option Nat} {ty:TypeId} {pos:String} {after:Array Edge} {guard:Option (Nat×Bool)}
  (hg:Gd ops L guard gu) (hn: ∀d,dst=some d->d<n) (tm:TM):
  SOk P n ops ⟨dst,.call ⟨.value x,args.toArray,ts⟩,ty,pos,after,guard⟩ L ob O tm (L4 P callf pu dst gu x args M O N tm):=by
 unfold L4
 rw [hM.tev]
 split
 ·rename_i o avs xs hx ha
  have hA:=kD ha
  cases hcall:callf (dQ+o) avs O N tm with
  |fail=>trivial
  |ret r O1 N1 t1=>
   refine fun hok=> ?_
   obtain ⟨ob1,h1,h2,h3⟩:=((hcf _ _ O N tm).1 _ _ _ _ hcall).2 hok ob hO
   have hpre: ∀i,tb t1.lo i=false->ob1[i]? =ob[i]? :=fun i hi=>by rw [<-h1.2,<-hO.2];exact h3 i hi
   obtain ⟨k1,k2⟩:=U7 (dst:=dst) (ty:=ty) (pos:=pos) (after:=after) (ts:=ts) hg hx hA (h2.2 o rfl) hpre
   exact ⟨ob1,h1,hM.up dst r,k1,rfl,hn,k2,rfl,fun i hi=>(nB hi).1,fun i hi=>h3 i (nB hi).2⟩
  |pan av O1 N1 t1=>
   exact absurd ((hcf _ _ O N tm).2 _ _ _ _ hcall).1 (Nat.not_lt.2 (Nat.le_add_right _ _))
 ·rename_i f fs cs avs xs hx ha
  have hA:=kD ha
  cases hfy:Nat.blt f dQ with
  |false=>trivial
  |true=>
  have hfb:f<dQ:=Nat.le_of_ble_eq_true hfy
  simp only [Bool.not_true,cond_false]
  cases hesc:xz P f with
  |true=>
   simp only [cond_true]
   unfold escE
   split
   ·rename_i y av
    refine fun _=> ?_
    obtain ⟨k1,k2,k3,k4⟩:=nA (P:=P) (n:=n) (ops:=ops) (L:=L) (o:=⟨dst,.call ⟨.value x,#[y],ts⟩,ty,pos,after,guard⟩) (ob:=ob) (ob' :=ob) (rc:=⟨dst,gu++cg ((x,.fn (.func f) [] [])::xs),av,[],.pure⟩)
     (fun kf kk=>Jr hesc hx hA hg hn kk)
    exact ⟨ob,hO,hM.up dst av,k1,k2,k3,k4,rfl,Kept.refl _ _⟩
   ·trivial
  |false=>
  simp only [cond_false]
  have hD:SOk P n ops ⟨dst,.call ⟨.value x,args.toArray,ts⟩,ty,pos,after,guard⟩ L ob O tm (oI (callf f (fs++(avs++cs)) O N tm) (fun r kd=>⟨dst,gu++cg ((x,.fn (.func f) fs cs)::xs),r,[],kd⟩) (fun r=>upT M r dst) O N tm):=by
   cases hcall:callf f (fs++(avs++cs)) O N tm with
   |fail=>trivial
   |ret r O1 N1 t1=>
    simp only [oI]
    cases hdr:Nat.beq (Nat.mod t1.lo (Nat.pow 2 N)) 0&&t1.syn (r.und N) false with
    |true=>
     simp only [Bool.and_eq_true] at hdr
     refine fun hok=> ?_
     obtain ⟨ob1,h1,h2,h3⟩:=((hcf f _ O N tm).1 _ _ _ _ hcall).2 hok ob hO
     obtain rfl:=hO.1
     have hpre: ∀i,i<ob.length->ob1[i]? =ob[i]? :=fun i hi=>by rw [<-h1.2,<-hO.2];exact h3 i (XX hdr.1 hi)
     have happ: ∃xs,ob1=ob++xs:=by
      refine ⟨ob1.drop ob.length,?_⟩
      apply List.ext_getElem?
      intro i
      by_cases hi:i<ob.length
      ·rw [List.getElem?_append_left hi];exact hpre i hi
      ·rw [List.getElem?_append_right oab,List.getElem?_drop];congr 1;omega
     obtain ⟨k1,k2,k3,k4⟩:=nA (P:=P) (n:=n) (ops:=ops) (L:=L) (o:=⟨dst,.call ⟨.value x,args.toArray,ts⟩,ty,pos,after,guard⟩) (ob:=ob) (ob' :=ob) (rc:=⟨dst,gu++cg ((x,.fn (.func f) fs cs)::xs),r,[],.from ob.length⟩)
      (fun kf kk=>jM ob.length (fun _ _=>rfl) (fun kf kk=>xo hx hA (xi ((h2.1 hfb).mono fun e o ⟨g1,g2⟩=>⟨g1,by rw [g2];exact happ⟩) (CP hdr.2)) hg hn kk) kk)
     exact ⟨ob,hO,hM.up dst r,k1,k2,k3,⟨rfl,rfl,k4.2⟩,rfl,Kept.refl _ _⟩
    |false=>
    refine fun hok=> ?_
    obtain ⟨ob1,h1,h2,h3⟩:=((hcf f _ O N tm).1 _ _ _ _ hcall).2 hok ob hO
    have hpre: ∀i,tb t1.lo i=false->ob1[i]? =ob[i]? :=fun i hi=>by rw [<-h1.2,<-hO.2];exact h3 i hi
    obtain ⟨k1,k2,k3,k4⟩:=nA (P:=P) (n:=n) (ops:=ops) (L:=L) (o:=⟨dst,.call ⟨.value x,args.toArray,ts⟩,ty,pos,after,guard⟩) (ob:=ob) (ob' :=ob1) (rc:=⟨dst,gu++cg ((x,.fn (.func f) fs cs)::xs),r,[],.chg t1.lo⟩)
     (fun kf kk=>Pl t1.lo hpre (fun kf kk=>xo hx hA (h2.1 hfb) hg hn kk) kk)
    exact ⟨ob1,h1,hM.up dst r,k1,k2,k3,k4,rfl,fun i hi=>(nB hi).1,fun i hi=>h3 i (nB hi).2⟩
   |pan av O1 N1 t1=>
    refine fun hok=> ?_
    obtain ⟨ob1,h1,h2,h3⟩:=((hcf f _ O N tm).2 _ _ _ _ hcall).2.2 hok ob hO
    exact ⟨ob1,h1,PG hg hx hA h2,fun i hi=>(nB hi).1,fun i hi=>h3 i (nB hi).2⟩
  generalize hq:tm.Cb (ah avs&&ah fs&&ah cs)=tq
  have hlo:tq.lo=tm.lo:=by rw [<-hq,L7]
  cases hv:tm.syn (ah avs&&ah fs&&ah cs) (jm avs&&jm fs&&jm cs) with
  |false=>
   simp only [cond_false]
   cases hp:pu f with
   |true=>trivial
   |false=>exact hD
  |true=>
   simp only [cond_true]
   have hvv:cx tq.ok=true->(ah avs=true/\ah fs=true)/\ah cs=true:=fun h=>by
    have:=HF hv (by rw [hq];exact h)
    simpa only [Bool.and_eq_true] using this
   cases hcall:callf f (fs++(avs++cs)) .e 0 tq with
   |fail=>trivial
   |pan av O1 N1 t1=>exact hD
   |ret r O1 N1 t1=>
    simp only [Jz]
    cases hk:Nat.beq N1 0&&t1.syn r.pure r.Pz with
    |true=>
     simp only [Bool.and_eq_true] at hk
     have hN:=Nat.eq_of_beq_eq_true hk.1
     subst hN
     refine fun hok=> ?_
     have hkk:r.pure=true:=HF (tm:=tm.take t1) (by rw [PF];exact hk.2) hok
     replace hok:cx t1.ok=true:=PE (tm:=tm.take t1) hok
     have hv:=hvv (((hcf f _ .e 0 tq).1 _ _ _ _ hcall).1.ok hok)
     obtain ⟨ob1,h1,h2,_⟩:=((hcf f _ .e 0 tq).1 _ _ _ _ hcall).2 hok [] bV.nil
     have:ob1=[]:=List.eq_nil_of_length_eq_zero h1.1
     subst this
     obtain ⟨k1,k2,k3,k4⟩:=nA (P:=P) (n:=n) (ops:=ops) (L:=L) (o:=⟨dst,.call ⟨.value x,args.toArray,ts⟩,ty,pos,after,guard⟩) (ob:=ob) (ob' :=ob) (rc:=⟨dst,gu++cg ((x,.fn (.func f) fs cs)::xs),r,[],.pure⟩)
      (fun kf kk=>Hk hx hA (h2.1 hfb) hv.1.1 hv.1.2 hv.2 hkk hg hn kk)
     exact ⟨ob,hO,hM.up dst r,k1,k2,k3,k4,rfl,fun i hi=>by rw [L7] at hi;exact hi,fun _ _=>rfl⟩
    |false=>
     simp only [cond_false]
     cases hfr:PB f r O1 N1 with
     |some r' =>
     refine fun hok=> ?_
     have hv:=hvv (((hcf f _ .e 0 tq).1 _ _ _ _ hcall).1.ok hok)
     obtain ⟨ob1,h1,h2,_⟩:=((hcf f _ .e 0 tq).1 _ _ _ _ hcall).2 hok [] bV.nil
     obtain ⟨ha',hp'⟩:=U6 hfr h1 (h2.1 hfb)
     obtain ⟨k1,k2,k3,k4⟩:=nA (P:=P) (n:=n) (ops:=ops) (L:=L) (o:=⟨dst,.call ⟨.value x,args.toArray,ts⟩,ty,pos,after,guard⟩) (ob:=ob) (ob' :=ob) (rc:=⟨dst,gu++cg ((x,.fn (.func f) fs cs)::xs),r',[],.pure⟩)
      (fun kf kk=>Hk hx hA ha' hv.1.1 hv.1.2 hv.2 hp' hg hn kk)
     exact ⟨ob,hO,hM.up dst r',k1,k2,k3,k4,rfl,Kept.refl _ _⟩
     |none=>
     refine fun hok=> ?_
     have hv:=hvv (((hcf f _ .e 0 tq).1 _ _ _ _ hcall).1.ok hok)
     obtain ⟨ob1,h1,h2,_⟩:=((hcf f _ .e 0 tq).1 _ _ _ _ hcall).2 hok [] bV.nil
     have hp:ah (fs++(avs++cs))=true:=ll hv.1.2 (ll hv.1.1 hv.2)
     have hpush:=Ng (h2.1 hfb) hp ob
     obtain rfl:=hO.1
     have hf:b0 [] ob.length=shf ob.length:=by
      funext i
      simp [b0,shf]
     have hrel:=Nx (Hw O1 ob.length N1 0) O ob.length ob hO
     rw [xR h1] at hrel
     have hl:(ob1.map (Ob.ren (b0 [] ob.length))).length=N1:=by rw [List.length_map];exact h1.1
     rw [hl] at hrel
     rw [hf] at hpush
     obtain ⟨k1,k2,k3,k4⟩:=nA (P:=P) (n:=n) (ops:=ops) (L:=L) (o:=⟨dst,.call ⟨.value x,args.toArray,ts⟩,ty,pos,after,guard⟩) (ob:=ob) (ob' :=ob++ob1.map (Ob.ren (shf ob.length))) (rc:=⟨dst,gu++cg ((x,.fn (.func f) fs cs)::xs),r.ren (shf ob.length),[],.from ob.length⟩)
      (fun kf kk=>jM ob.length (fun i hi=>List.getElem?_append_left hi) (fun kf kk=>xo hx hA hpush hg hn kk) kk)
     refine ⟨_,by rw [xR h1,hf];rw [hf] at hrel;exact hrel,hM.up dst _,k1,k2,k3,k4,rfl,fun i hi=>(sD hi).1,fun i hi=> ?_⟩
     rw [xR h1]
     rw [hrel.2,hO.2]
     rcases HD (sD hi).2 with h|h
     ·rw [List.getElem?_append_left h]
     ·rw [List.getElem?_eq_none (by rw [List.length_append,hl];exact h),List.getElem?_eq_none oab]
 ·trivial
theorem EL (hcf:ct P callf) {ops:Array Oper} {M:Tri AV} {L gu:Loc} {O:Tri Ob} {N:Nat} {ob:List Ob} (hM:cw M L) (hO:bV O N ob) (o:Oper) (tm:TM) (hg:Gd ops L o.guard gu) (hn: ∀d,o.dst=some d->d<n):
  SOk P n ops o L ob O tm (Cc P callf pu o gu M O N tm):=by
 unfold Cc
 obtain ⟨dst,op,ty,pos,after,guard⟩:=o
 split
 ·rename_i c hop
  simp only at hop
  subst hop
  obtain ⟨callee,args,ts⟩:=c
  split
  ·rename_i x hc
   simp only at hc
   subst hc
   have:=PJ (pu:=pu) hcf (P:=P) (n:=n) (ops:=ops) hM hO (x:=x) (args:=args.toList) (ts:=ts) (dst:=dst) (ty:=ty) (pos:=pos) (after:=after) (guard:=guard) hg hn tm
   simpa using this
  ·split
   ·exact dv hM hO hg hn tm
   ·exact EK hM hO hg hn tm _ _ (v8 hM hO hg hn tm)
 ·split
  ·exact dv hM hO hg hn tm
  ·exact xT hM hO hg hn tm _ _ (v8 hM hO hg hn tm)
 ·split
  ·exact dv hM hO hg hn tm
  ·exact EK hM hO hg hn tm _ _ (v8 hM hO hg hn tm)
 ·split
  ·exact dv hM hO hg hn tm
  ·exact xT hM hO hg hn tm _ _ (dv hM hO hg hn tm)
 ·split
  ·exact dv hM hO hg hn tm
  ·exact xT hM hO hg hn tm _ _ (dv hM hO hg hn tm)
 ·split
  ·exact dv hM hO hg hn tm
  ·exact v8 hM hO hg hn tm
 ·rename_i x hop
  simp only at hop
  subst hop
  unfold panE
  rw [hM.tev]
  split
  ·rename_i t y hx
   exact fun _=>⟨ob,hO,XY hg hx,Kept.refl _ _⟩
  ·trivial
 ·split
  ·exact dv hM hO hg hn tm
  ·rename_i g r hgd'
   unfold cmpR
   split
   ·rename_i d b xs hx
    have hb:=dv (P:=P) (n:=n) hM hO hg hn tm
    rw [hx] at hb
    intro hok
    simp only [TM.told,cx,Bool.and_eq_true] at hok
    have hbd:b=d:=by
     grind
    subst hbd
    obtain ⟨ob',q1,q2,q3,q4,q5,q6,q7,q8⟩:=hb hok.2
    exact ⟨ob',q1,q2,q3,q4,q5,q6,q7,fun i h=>h,fun i _=>rfl⟩
   ·rename_i z k m xs hx
    have hb:=dv (P:=P) (n:=n) hM hO hg hn tm
    rw [hx] at hb
    intro hok
    simp only [TM.told,cx,Bool.and_eq_true] at hok
    have hbd:=aP.1 hok.1
    subst hbd
    obtain ⟨ob',q1,q2,q3,q4,q5,q6,q7,q8⟩:=hb hok.2
    exact ⟨ob',q1,q2,q3,q4,q5,q6,q7,fun i h=>h,fun i _=>rfl⟩
   ·rename_i b xs hx
    have hb:=dv (P:=P) (n:=n) hM hO hg hn tm
    rw [hx] at hb
    intro hok
    simp only [TM.told,cx,Bool.true_and] at hok
    obtain ⟨ob',q1,q2,q3,q4,q5,q6,q7,q8⟩:=hb hok
    exact ⟨ob',q1,q2,q3,q4,q5,q6,q7,fun i h=>h,fun i _=>rfl⟩
   ·exact dv hM hO hg hn tm
 ·split
  ·exact dv hM hO hg hn tm
  ·exact EK hM hO hg hn tm _ _ (dv hM hO hg hn tm)
theorem HG (hcf:ct P callf) {all:List Oper} {M:Tri AV} {L:Loc} {O:Tri Ob} {N:Nat} {ob:List Ob} (hM:cw M L) (hO:bV O N ob) (o:Oper) (tm:TM):
  SOk P n all.toArray o L ob O tm (xI P n callf pu all o M O N tm):=by
 unfold xI
 cases hd:Hv n o.dst with
 |false=>trivial
 |true=>
  have hn:=CO hd
  simp only [cond_true]
  split
  ·grind [EL,xQ]
  ·rename_i gu hgd
   obtain ⟨k1,k2⟩:=HC (P:=P) (n:=n) (ob:=ob) (CN hM hgd) hn
   exact fun _=>⟨ob,hO,hM.up _ _,k1,rfl,hn,k2,rfl,Kept.refl _ _⟩
  ·trivial
theorem uo (all:List Oper) (o:Oper) (l:List Oper) (M:Tri AV) (O:Tri Ob) (N:Nat) (tm:TM):fV P n callf pu all (o::l) M O N tm=L5 M (fV P n callf pu all l) (lz P n callf pu all o M O N tm):=rfl
theorem qC (hcf:ct P callf) {o:Oper} {M:Tri AV} {O:Tri Ob} {N:Nat} {tm:TM}:
  ∀gu,(∀{rc M' O' N' tm'},Cc P callf pu o gu M O N tm= .val rc M' O' N' tm' ->Ext tm tm')/\(∀{av O' N' tm'},Cc P callf pu o gu M O N tm= .pan av O' N' tm' ->Ext tm tm'):=by
 have hex: ∀(gu:Loc) (x:Option Out),(∀{rc M' O' N' tm'},gB M o.dst gu O N tm upT et x= .val rc M' O' N' tm' ->Ext tm tm')/\(∀{av O' N' tm'},gB M o.dst gu O N tm upT et x= .pan av O' N' tm' ->Ext tm tm'):=by
  intro gu x
  cases x with
  |none=>exact ⟨fun h=>oak,fun h=>oak⟩
  |some out=>obtain ⟨r,kd,d,xs⟩:=out;exact ⟨fun h=>(by cases h;exact Ext.refl _),fun h=>oak⟩
 have hck: ∀(gu:Loc) (x:Option Out) (y:Option (Bool×Out)),(∀{rc M' O' N' tm'},JA M o.dst gu O N tm upT et x y= .val rc M' O' N' tm' ->Ext tm tm')/\(∀{av O' N' tm'},JA M o.dst gu O N tm upT et x y= .pan av O' N' tm' ->Ext tm tm'):=by
  intro gu x y
  cases y with
  |none=>exact hex gu x
  |some q=>obtain ⟨p,r,kd,d,xs⟩:=q;exact ⟨fun h=>(by cases h;exact ⟨[p],rfl⟩),fun h=>oak⟩
 have hhi: ∀(gu:Loc) (r:List Gi) (y:SR) (q:Option (Bool×Out)),((∀{rc M' O' N' tm'},y= .val rc M' O' N' tm' ->Ext tm tm')/\(∀{av O' N' tm'},y= .pan av O' N' tm' ->Ext tm tm'))->(∀{rc M' O' N' tm'},n6 M o.dst gu O N tm r upT et y q= .val rc M' O' N' tm' ->Ext tm tm')/\(∀{av O' N' tm'},n6 M o.dst gu O N tm r upT et y q= .pan av O' N' tm' ->Ext tm tm'):=by
  intro gu r y q hy
  cases q with
  |none=>exact hy
  |some q=>obtain ⟨p,r,kd,d,xs⟩:=q;exact ⟨fun h=>(by cases h;exact ⟨[p],rfl⟩),fun h=>oak⟩
 have key: ∀gu,(∀{rc M' O' N' tm'},Cc P callf pu o gu M O N tm= .val rc M' O' N' tm' ->Ext tm tm')/\(∀{av O' N' tm'},Cc P callf pu o gu M O N tm= .pan av O' N' tm' ->Ext tm tm'):=by
  intro gu
  unfold Cc
  split
  ·split
   ·unfold L4
    split
    ·rename_i o avs xs _ _
     cases hcall:callf (dQ+o) avs O N tm with
     |fail=>exact ⟨fun h=>oak,fun h=>oak⟩
     |ret r O1 N1 t1=>exact ⟨fun h=>(by cases h;exact ((hcf _ _ O N tm).1 _ _ _ _ hcall).1),fun h=>oak⟩
     |pan av O1 N1 t1=>exact ⟨fun h=>oak,fun h=>(by cases h;exact ((hcf _ _ O N tm).2 _ _ _ _ hcall).2.1)⟩
    ·rename_i f fs cs avs xs _ _
     cases Nat.blt f dQ with
     |false=>simp_all
     |true=>
     simp only [Bool.not_true,cond_false]
     cases xz P f with
     |true=>
      simp only [cond_true]
      unfold escE
      grind [Ext.refl]
     |false=>
     simp only [cond_false]
     have hD: ∀x0:Operand,(∀{rc M' O' N' tm'},oI (callf f (fs++(avs++cs)) O N tm) (fun r kd=>(⟨o.dst,gu++cg ((x0,.fn (.func f) fs cs)::xs),r,[],kd⟩:Rec)) (fun r=>upT M r o.dst) O N tm= .val rc M' O' N' tm' ->Ext tm tm')/\(∀{av O' N' tm'},oI (callf f (fs++(avs++cs)) O N tm) (fun r kd=>(⟨o.dst,gu++cg ((x0,.fn (.func f) fs cs)::xs),r,[],kd⟩:Rec)) (fun r=>upT M r o.dst) O N tm= .pan av O' N' tm' ->Ext tm tm'):=by
      intro x0
      cases hcall:callf f (fs++(avs++cs)) O N tm with
      |fail=>exact ⟨fun h=>oak,fun h=>oak⟩
      |ret r O1 N1 t1=>
       simp only [oI]
       cases Nat.beq (Nat.mod t1.lo (Nat.pow 2 N)) 0&&t1.syn (r.und N) false with
       |true=>exact ⟨fun h=>(by cases h;exact ((hcf f _ O N tm).1 _ _ _ _ hcall).1),fun h=>oak⟩
       |false=>exact ⟨fun h=>(by cases h;exact ((hcf f _ O N tm).1 _ _ _ _ hcall).1),fun h=>oak⟩
      |pan av O1 N1 t1=>exact ⟨fun h=>oak,fun h=>(by cases h;exact ((hcf f _ O N tm).2 _ _ _ _ hcall).2.1)⟩
     cases tm.syn (ah avs&&ah fs&&ah cs) (jm avs&&jm fs&&jm cs) with
     |false=>
      simp only [cond_false]
      cases pu f with
      |true=>grind
      |false=>exact hD _
     |true=>
      simp only [cond_true]
      cases hcall:callf f (fs++(avs++cs)) .e 0 (tm.Cb (ah avs&&ah fs&&ah cs)) with
      |fail=>exact ⟨fun h=>oak,fun h=>oak⟩
      |pan av O1 N1 t1=>exact hD _
      |ret r O1 N1 t1=>
       have he:=(xS tm _).trans ((hcf f _ .e 0 (tm.Cb _)).1 _ _ _ _ hcall).1
       simp only [Jz]
       cases Nat.beq N1 0&&t1.syn r.pure r.Pz with
       |true=>exact ⟨fun h=>(by cases h;exact he.trans (xS (tm.take t1) _)),fun h=>oak⟩
       |false=>
        simp only [cond_false]
        cases PB f r O1 N1 with
        |some r' =>exact ⟨fun h=>(by cases h;exact he),fun h=>oak⟩
        |none=>exact ⟨fun h=>(by cases h;exact he),fun h=>oak⟩
    simp_all
   grind
  ·grind
  ·grind
  ·grind
  ·grind
  ·grind
  ·grind [panE,Ext.refl]
  ·split
   ·exact hex gu _
   ·unfold cmpR
    split
    ·exact ⟨fun h=>(by cases h;exact ⟨[_],rfl⟩),fun h=>oak⟩
    ·exact ⟨fun h=>(by cases h;exact ⟨[_],rfl⟩),fun h=>oak⟩
    ·exact ⟨fun h=>(by cases h;exact ⟨[_],rfl⟩),fun h=>oak⟩
    ·exact hex gu _
  grind
 exact key
theorem CS (hcf:ct P callf) {all:List Oper} {o:Oper} {M:Tri AV} {O:Tri Ob} {N:Nat} {tm:TM}:
  (∀{rc M' O' N' tm'},xI P n callf pu all o M O N tm= .val rc M' O' N' tm' ->Ext tm tm')/\(∀{av O' N' tm'},xI P n callf pu all o M O N tm= .pan av O' N' tm' ->Ext tm tm'):=by
 unfold xI
 cases Hv n o.dst with
 |false=>simp_all
 |true=>
  simp only [cond_true]
  split
  ·exact qC hcf _
  ·grind [Ext.refl]
  simp_all
theorem HH {M:Tri AV} {L:Loc} (hM:cw M L) {t:Nat} {av:AV} (h:M.get t=some av):cw (M.set av t) L:=fun s=>by
 rw [di]
 split
 ·rename_i e
  first|rw [<-hM s,<-h,e]|rw [<-hM s,<-h,<-e]
 ·exact hM s
theorem EM {all:List Oper} {M:Tri AV} {L:Loc} (hM:cw M L) {j:Nat} {want w:Bool} {gu:Loc} (h:gdE all M (some (j,want))= .ok w gu):cw (Hx M (cond want w (!w)) gu) L:=by
 unfold gdE at h
 dsimp only at h
 split at h
 ·split at h
  ·split at h
   ·rename_i b hb
    cases h
    have:cond want (cond want b (!b)) (!cond want b (!b))=b:=by cases want<;>cases b<;>rfl
    rw [this]
    exact HH hM hb
   ·cases h;exact hM
   ·cases h
  ·cases h
 ·cases h
theorem xU {tm t:TM} {r:List Gi} {w:Bool} (h:Ext (tm.told r w) t):Ext tm t:=Ext.trans ⟨[w],rfl⟩ h
theorem JL (hcf:ct P callf) {all:List Oper} {o:Oper} {M:Tri AV} {O:Tri Ob} {N:Nat} {tm:TM}:
  (∀{rc M' O' N' tm'},lz P n callf pu all o M O N tm= .val rc M' O' N' tm' ->Ext tm tm')/\(∀{av O' N' tm'},lz P n callf pu all o M O N tm= .pan av O' N' tm' ->Ext tm tm'):=by
 unfold lz
 split
 ·exact CS hcf
 ·split
  ·rename_i want _ d r _
   unfold stepG
   cases Hv n o.dst with
   |false=>simp_all
   |true=>
    simp only [cond_true]
    split
    ·rename_i w gu _
     cases d with
     |true=>exact ⟨fun h=>xU ((qC hcf gu).1 h),fun h=>xU ((qC hcf gu).2 h)⟩
     |false=>grind [xU,Ext.refl]
    simp_all
  ·exact CS hcf
theorem NA (hcf:ct P callf) {all:List Oper} {M:Tri AV} {L:Loc} {O:Tri Ob} {N:Nat} {ob:List Ob} (hM:cw M L) (hO:bV O N ob) (o:Oper) (tm:TM):
  SOk P n all.toArray o L ob O tm (lz P n callf pu all o M O N tm):=by
 unfold lz
 split
 ·exact HG hcf hM hO o tm
 ·rename_i j want hog
  split
  ·rename_i d r _
   unfold stepG
   cases hd:Hv n o.dst with
   |false=>trivial
   |true=>
    have hn:=CO hd
    simp only [cond_true]
    split
    ·rename_i w gu hgd
     cases d with
     |true=>
      simp only [cond_true]
      have he:=qC (pu:=pu) hcf (o:=o) (M:=Hx M want gu) (O:=O) (N:=N) (tm:=tm.told r w) gu
      have hw: ∀{tm' :TM},Ext (tm.told r w) tm' ->cx tm'.ok=true->w=true:=fun e hok=>by
       have:=e.ok hok
       simp_all [TM.told,cx]
      cases hres:Cc P callf pu o gu (Hx M want gu) O N (tm.told r w) with
      |fail=>trivial
      |val rc M' O' N' tm' =>
       intro hok
       obtain rfl:=hw (he.1 hres) hok
       have hl:cw (Hx M want gu) L:=by grind [EM]
       have:=EL (pu:=pu) (n:=n) (ops:=all.toArray) hcf hl hO o (tm.told r true) (xQ hM hgd) hn
       rw [hres] at this
       exact this hok
      |pan av O' N' tm' =>
       intro hok
       obtain rfl:=hw (he.2 hres) hok
       have hl:cw (Hx M want gu) L:=by grind [EM]
       have:=EL (pu:=pu) (n:=n) (ops:=all.toArray) hcf hl hO o (tm.told r true) (xQ hM hgd) hn
       rw [hres] at this
       exact this hok
     |false=>
      simp only [cond_false]
      intro hok
      simp only [TM.told,cx,Bool.and_eq_true,Bool.not_eq_true'] at hok
      obtain ⟨rfl,_⟩:=hok
      obtain ⟨k1,k2⟩:=HC (P:=P) (n:=n) (ob:=ob) (CN hM hgd) hn
      have hl:cw (Hx M (!want) gu) L:=by grind [EM]
      exact ⟨ob,hO,hl.up _ _,k1,rfl,hn,k2,rfl,Kept.refl _ _⟩
    ·trivial
  ·exact HG hcf hM hO o tm
theorem oL (hcf:ct P callf) (all:List Oper): ∀(l:List Oper) {M:Tri AV} {O:Tri Ob} {N:Nat} {tm:TM},
  (∀{recs M' O' N' tm'},fV P n callf pu all l M O N tm= .ok recs M' O' N' tm' ->Ext tm tm')/\(∀{av M' O' N' tm'},fV P n callf pu all l M O N tm= .pan av M' O' N' tm' ->Ext tm tm')
 |[],M,O,N,tm=>⟨fun h=>(by cases h;exact Ext.refl _),fun h=>oak⟩
 |o::l,M,O,N,tm=>by
  rw [uo]
  have hs:=JL (pu:=pu) (n:=n) hcf (all:=all) (o:=o) (M:=M) (O:=O) (N:=N) (tm:=tm)
  cases hst:lz P n callf pu all o M O N tm with
  |fail=>exact ⟨fun h=>oak,fun h=>oak⟩
  |pan av O1 N1 t1=>exact ⟨fun h=>oak,fun h=>(by cases h;exact hs.2 hst)⟩
  |val rc M1 O1 N1 t1=>
   have h1:=hs.1 hst
   have ih:=oL hcf all l (M:=M1) (O:=O1) (N:=N1) (tm:=t1)
   simp only [L5]
   cases hr:fV P n callf pu all l M1 O1 N1 t1 with
   |fail=>exact ⟨fun h=>oak,fun h=>oak⟩
   |ok recs M2 O2 N2 t2=>exact ⟨fun h=>(by cases h;exact h1.trans (ih.1 hr)),fun h=>oak⟩
   |pan av M2 O2 N2 t2=>exact ⟨fun h=>oak,fun h=>(by cases h;exact h1.trans (ih.2 hr))⟩
theorem sE (hcf:ct P callf) (all:List Oper): ∀(l:List Oper) {M:Tri AV} {L:Loc} {O:Tri Ob} {N:Nat} {ob:List Ob} (_hM:cw M L) (_hO:bV O N ob) (tm:TM),ROk P n all.toArray l L ob O tm (fV P n callf pu all l M O N tm)
 |[],M,L,O,N,ob,hM,hO,tm=>fun _=>⟨L,ob,hM,hO,.nil _ _,by simp,Kept.refl _ _⟩
 |o::l,M,L,O,N,ob,hM,hO,tm=>by
  rw [uo]
  have hs:=NA (pu:=pu) (n:=n) hcf (all:=all) hM hO o tm
  cases hst:lz P n callf pu all o M O N tm with
  |fail=>trivial
  |pan av O1 N1 t1=>
   rw [hst] at hs
   intro hok
   obtain ⟨ob1,h1,h2,h3⟩:=hs hok
   exact ⟨[],o,l,[],L,ob,ob1,rfl,.nil _ _,by simp,hM,h1,h2,h3⟩
  |val rc M1 O1 N1 t1=>
   rw [hst] at hs
   have hext:=oL (pu:=pu) (n:=n) hcf all l (M:=M1) (O:=O1) (N:=N1) (tm:=t1)
   simp only [L5]
   cases hr:fV P n callf pu all l M1 O1 N1 t1 with
   |fail=>trivial
   |ok recs M2 O2 N2 t2=>
    intro hok
    obtain ⟨ob1,h1,h2,h3,h4,h5,h6,h7,h8⟩:=hs ((hext.1 hr).ok hok)
    have ih:=sE hcf all l h2 h1 t1
    rw [hr] at ih
    obtain ⟨L2,ob2,g1,g2,g3,g4,g5⟩:=ih hok
    exact ⟨L2,ob2,g1,g2,.cons h3 h4 h5 h6 g3,fun r hrc=>by
     rcases List.mem_cons.1 hrc with e|e
     ·subst e;exact h7
     ·exact g4 r e,h8.trans g5⟩
   |pan av M2 O2 N2 t2=>
    intro hok
    obtain ⟨ob1,h1,h2,h3,h4,h5,h6,h7,h8⟩:=hs ((hext.2 hr).ok hok)
    have ih:=sE hcf all l h2 h1 t1
    rw [hr] at ih
    obtain ⟨l1,o',l2,recs,L1,oba,obb,g0,g1,g2,g3,g4,g5,g6⟩:=ih hok
    exact ⟨o::l1,o',l2,rc::recs,L1,oba,obb,by rw [g0];rfl,.cons h3 h4 h5 h6 g1,fun r hrc=>by
     rcases List.mem_cons.1 hrc with e|e
     ·subst e;exact h7
     ·exact g2 r e,g3,g4,g5,h8.trans g6⟩
theorem n8 {ops:Array Oper} {l:List Oper} {recs:List Rec} {L L2:Loc} {ob ob2:List Ob} (hev:Ev P n ops l recs L ob L2 ob2) (hks: ∀rc∈recs,rc.ks=[]) (l2:List Oper) {ro:Option Nat} (hd:ro=none\/l.all Oper.still=true):
  ∀{m:Mem} {γ:Gam} {w:World} {a:Act} {Q:Exit->Act->World->Prop},Inv m γ ob w->b9 m γ a L->a.tmps.size=n->
  (∀m' γ' w' a',Trans m γ w m' γ' w' ->Inv m' γ' ob2 w' ->b9 m' γ' a' L2->a'.tmps.size=n->a'.defers=a.defers->Le m γ [] m' γ' ->wpListIn (dV ro) 0 P ops Q l2 a' w')->wpListIn (dV ro) 0 P ops Q (l++l2) a w:=by
 induction hev with
 |nil L ob=>intro m γ w a Q hi hl hs hq;exact hq m γ w a (Trans.refl _ _ _) hi hl hs rfl (Le.refl _ _ _)
 |cons hus hdst hn hst h ih=>
  intro m γ w a Q hi hl hs hq
  have hk:=hks _ (List.mem_cons_self ..)
  have hd1:ro=none\/Oper.still _=true:=hd.imp (fun h=>h) fun e=>by simp only [List.all_cons,Bool.and_eq_true] at e;exact e.1
  have hd2:ro=none\/List.all _ Oper.still=true:=hd.imp (fun h=>h) fun e=>by simp only [List.all_cons,Bool.and_eq_true] at e;exact e.2
  show wpListIn (dV ro) 0 P ops Q (_::(_++l2)) a w
  unfold wpListIn
  refine wP hd1 (hst.step m γ w a _ Q hi (hl.sub hus) fun m' γ' w' x ht hle hi' hx=> ?_)
  have hle0:Le m γ [] m' γ' :=by rw [hk] at hle;exact hle
  exact ih (fun rc hrc=>hks rc (List.mem_cons_of_mem _ hrc)) hd2 hi' (oC hl hle hdst (fun e he=>by rw [hs];exact hn e he) hx) (by rw [wO];exact hs)
   fun m2 γ2 w2 a2 ht2 hi2 hl2 hs2 hd2 hk2=>hq m2 γ2 w2 a2 (ht.trans ht2) hi2 hl2 hs2 (hd2.trans (oB _ _ _))
    ⟨fun b x h=>hk2.mem b x (hle0.mem b x h),fun o g hg hc=>hk2.gam o g (hle0.gam o g hg hc) hc⟩
def jG (df:Option Nat) (c:Code):Prop:=df=none\/c.inR=true
def Runs (P:Program) (n:Nat) (c:Code) (M:Tri AV) (O:Tri Ob) (N:Nat) (tm:TM) (x:AX) (M' :Tri AV) (O' :Tri Ob) (N' :Nat) (tm' :TM):Prop:=
 Kept O O' tm tm' /\ ∀L ob,cw M L->bV O N ob->(∃L' ob',cw M' L' /\bV O' N' ob')/\
  ∀df K Q,jG df c->(∀L' ob',cw M' L' ->bV O' N' ob' ->Q x L' ob')->awp df P n K [] c Q L ob
theorem PK {K:Nat} {m m' :Mem} {γ γ' :Gam} (h:Le m γ [] m' γ'): ∀o g,kept K [] o->γ o=some g->γ' o=some g:=fun o g ho hg=>h.gam o g hg ho.2
theorem NB (hcf:ct P callf) (hm:P.follows .mixedOrders=true) (id:Nat) (ops:Array Oper) (draw:Bool) {M:Tri AV} {O:Tri Ob} {N:Nat} {tm:TM} {x:AX} {M' :Tri AV} {O' :Tri Ob} {N' :Nat} {tm' :TM}
  (hr:EA ops.toList draw (fV P n callf pu ops.toList ops.toList M O N tm)= .ok x M' O' N' tm') (hok0:cx tm'.ok=true) (hex: ∃L ob,cw M L/\bV O N ob):Runs P n (.region id ops draw) M O N tm x M' O' N' tm' :=by
 have hops:ops=ops.toList.toArray:=by simp
 have base: ∀L ob,cw M L->bV O N ob->Kept O O' tm tm' /\(∃L' ob',cw M' L' /\bV O' N' ob')/\ ∀df K Q,jG df (.region id ops draw)->(∀L' ob',cw M' L' ->bV O' N' ob' ->Q x L' ob')->awp df P n K [] (.region id ops draw) Q L ob:=by
  intro L ob hM hO
  have hok:=sE (pu:=pu) (n:=n) hcf ops.toList ops.toList hM hO tm
  cases hrun:fV P n callf pu ops.toList ops.toList M O N tm with
  |fail=>rw [hrun] at hr;cases hr
  |ok recs M2 O2 N2 t2=>
   rw [hrun] at hr hok
   have key:x= .normal/\M' =M2/\O' =O2/\N' =N2/\tm' =t2/\(draw=true->Ed ops.toList recs=true):=by
    cases draw with
    |false=>grind [EA]
    |true=>
     simp only [EA] at hr
     grind
   obtain ⟨rfl,rfl,rfl,rfl,rfl,hd⟩:=key
   obtain ⟨L2,ob2,g1,g2,g3,g4,g5⟩:=hok hok0
   refine ⟨g5,⟨L2,ob2,g1,g2⟩,fun df K Q hdo hq=> ?_⟩
   intro m γ w a hi hl hs hdf
   cases draw with
   |false=>
    rw [hops]
    refine wpIn_region_lit ?_
    have:=n8 g3 g4 [] hdo (Q:=jF false a.defers K [] n Q m γ w) hi hl hs (fun m' γ' w' a' ht hi' hl' hs' hd' hk' =>
     ⟨m',γ',L2,ob2,.normal,hq L2 ob2 g1 g2,trivial,ht,hi',hl',hs',.of_eq hd',PK hk'⟩)
    simpa [Code.rf] using this
   |true=>
    rw [hops]
    exact Ji hm hdo g3 (hd rfl) hi hl hs fun m' γ' w' a' ht hi' hl' hs' hd' hk' =>
     ⟨m',γ',L2,ob2,.normal,hq L2 ob2 g1 g2,trivial,ht,hi',hl',hs',.of_eq hd',oaI⟩
  |pan av M2 O2 N2 t2=>
   rw [hrun] at hr hok
   cases draw with
   |true=>cases hr
   |false=>
    simp only [EA,Bool.not_false,cond_true,RX.ok.injEq] at hr
    obtain ⟨rfl,rfl,rfl,rfl,rfl⟩:=hr
    obtain ⟨l1,o,l2,recs,L1,oba,obb,g0,g1,g2,g3,g4,g5,g6⟩:=hok hok0
    refine ⟨g6,⟨L1,obb,g3,g4⟩,fun df K Q hdo hq=> ?_⟩
    intro m γ w a hi hl hs hdf
    rw [hops]
    refine wpIn_region_lit ?_
    have hst:df=none\/(l1++o::l2).all Oper.still=true:=hdo.imp (fun h=>h) fun e=>by rw [<-g0];exact e
    have hst1:df=none\/l1.all Oper.still=true:=oaw
    have hst2:df=none\/Oper.still o=true:=oaw
    have hgo:wpListIn (dV df) 0 P ops.toList.toArray (jF false a.defers K [] n Q m γ w) (l1++o::l2) a w:=by
     refine n8 g1 g2 (o::l2) hst1 (Q:=jF false a.defers K [] n Q m γ w) hi hl hs (fun m' γ' w' a' ht hi' hl' hs' hd' hk' => ?_)
     obtain ⟨hw,hwp⟩:=g5 m' γ' w' a' (wpListIn (dV df) 0 P ops.toList.toArray (jF false a.defers K [] n Q m γ w) l2) (jF false a.defers K [] n Q m γ w) hi' hl' (fun m2 γ2 w2 v ht2 hle2 hi2 hv=>
      ⟨m2,γ2,L1,obb,.panic av,hq L1 obb g3 g4,⟨v,rfl,hv⟩,ht.trans ht2,hi2,JK hl' hle2,hs',.of_eq hd',fun q g ho hg=>hle2.gam q g (hk'.gam q g hg ho.2) ho.2⟩)
     grind [wpListIn,wN]
    rw [<-g0] at hgo
    exact hgo
 obtain ⟨L0,ob0,hM0,hO0⟩:=hex
 exact ⟨(base L0 ob0 hM0 hO0).1,fun L ob hM hO=>(base L ob hM hO).2⟩
def jmp (P:Program) (c:Code) (Q:Exit->Act->World->Prop):Nat->Exit->Act->World->Prop
 |0,.goto _,_,_=>False
 |k+1,.goto l,a,w=> ∃rest,findLabel c l=some rest/\rest.wp P (jmp P c Q k) a w
 |_,e,a,w=>Q e a w
theorem EN {c:Code} {Q:Exit->Act->World->Prop} {a:Act} {w:World} (k:Nat) (first:c.wp P (jmp P c Q k) a w):(Code.scope c).wp P Q a w:=by
 intro b items cs
 have hg: ∀l rest,findLabel c l=some rest->gotoIn l (.inScope c::items)=some (.code rest:: .inScope c::items):=fun l rest hf=>by simp [gotoIn,hf]
 have key: ∀(k:Nat) (r:Code) (a:Act) (w:World),r.wp P (jmp P c Q k) a w-> ∃e a' w',Q e a' w' /\Arrives P (lone (b.at a (.code r:: .inScope c::items)) cs w) b items cs e a' w' :=by
  intro k
  induction k with
  |zero=>
   intro r a w hr
   obtain ⟨e,a₁,w₁,hq,harr⟩:=hr b (.inScope c::items) cs
   cases e with
   |normal=>exact ⟨.normal,a₁,w₁,hq,Steps.trans harr (.one step_inScope)⟩
   |exit id=>exact ⟨.exit id,a₁,w₁,hq,fun k' hk=>harr k' (by simp [exitTo,hk])⟩
   |goto l' =>exact hq.elim
   |ret=>exact ⟨_,a₁,w₁,hq,harr⟩
   |panic ch=>exact ⟨_,a₁,w₁,hq,harr⟩
   |outgrown=>exact ⟨_,a₁,w₁,hq,harr⟩
  |succ k ih=>
   intro r a w hr
   obtain ⟨e,a₁,w₁,hq,harr⟩:=hr b (.inScope c::items) cs
   cases e with
   |normal=>exact ⟨.normal,a₁,w₁,hq,Steps.trans harr (.one step_inScope)⟩
   |exit id=>exact ⟨.exit id,a₁,w₁,hq,fun k' hk=>harr k' (by simp [exitTo,hk])⟩
   |goto l' =>
    obtain ⟨rest,hf,hrest⟩:=hq
    obtain ⟨e₂,a₂,w₂,hq₂,harr₂⟩:=ih rest a₁ w₁ hrest
    exact ⟨e₂,a₂,w₂,hq₂,.of_steps (harr _ (hg l' rest hf)) harr₂⟩
   |ret=>exact ⟨_,a₁,w₁,hq,harr⟩
   |panic ch=>exact ⟨_,a₁,w₁,hq,harr⟩
   |outgrown=>exact ⟨_,a₁,w₁,hq,harr⟩
 obtain ⟨e,a',w',hq,harr⟩:=key k c a w first
 exact ⟨e,a',w',hq,.of_steps (.one step_scope) harr⟩
def NC (P:Program) (n K:Nat) (kk:List Nat) (c:Code) (Q:dI):Nat->dI
 |0,.goto _,_,_=>False
 |k+1,.goto l,L,ob=> ∃rest,findLabel c l=some rest/\(!rest.rf||c.rf)=true/\awp none P n K kk rest (NC P n K kk c Q k) L ob
 |_,x,L,ob=>Q x L ob
theorem U8 {K:Nat} {kk:List Nat} {c:Code} {Q:dI} {k:Nat} {x:AX} {L:Loc} {ob:List Ob} (hx: ∀l,x≠ .goto l) (h:Q x L ob):NC P n K kk c Q k x L ob:=by
 cases x with
 |goto l=>exact absurd rfl (hx l)
 |_=>cases k<;>exact h
theorem CT {K:Nat} {kk:List Nat} {c:Code} {Q:dI} {L:Loc} {ob:List Ob} (k:Nat) (h:awp none P n K kk c (NC P n K kk c Q k) L ob):awp none P n K kk (.scope c) Q L ob:=by
 intro m γ w a hi hl hs _
 refine wpIn_wide.2 (EN k ?_)
 have key: ∀(k:Nat) (r:Code),(!r.rf||c.rf)=true-> ∀(L:Loc) (ob:List Ob),awp none P n K kk r (NC P n K kk c Q k) L ob-> ∀m1 γ1 w1 a1,Trans m γ w m1 γ1 w1->(∀o g,kept K kk o->γ o=some g->γ1 o=some g)->Marks c.rf a.defers w a1.defers γ1 w1->Inv m1 γ1 ob w1->b9 m1 γ1 a1 L->a1.tmps.size=n->
   r.wp P (jmp P c (jF c.rf a.defers K kk n Q m γ w) k) a1 w1:=by
  intro k
  induction k with
  |zero=>
   intro r hrf L ob hr m1 γ1 w1 a1 ht hk hm hi hl hs
   refine wp_mono (wpIn_wide.1 (hr m1 γ1 w1 a1 hi hl hs trivial)) ?_
   rintro e a2 w2 hp
   have hp' :=jF.trans (rf:=c.rf) (rf1:=c.rf) (rf2:=r.rf) (ds0:=a.defers) ht hk hm (fun e=>e) (fun e=>by rw [e] at hrf;simpa using hrf) hp
   obtain ⟨m2,γ2,L2,ob2,ax,h1,h2,h3⟩:=hp'
   cases e with
   |goto l=>cases ax<;>first|exact h2.elim|exact h1.elim
   |normal=>cases ax<;>first|exact h2.elim|exact ⟨m2,γ2,L2,ob2,_,h1,h2,h3⟩
   |ret=>cases ax<;>first|exact h2.elim|exact ⟨m2,γ2,L2,ob2,_,h1,h2,h3⟩
   |exit=>cases ax<;>first|exact h2.elim|exact ⟨m2,γ2,L2,ob2,_,h1,h2,h3⟩
   |panic=>cases ax<;>first|exact h2.elim|exact ⟨m2,γ2,L2,ob2,_,h1,h2,h3⟩
   |outgrown=>cases ax<;>exact h2.elim
  |succ k ih=>
   intro r hrf L ob hr m1 γ1 w1 a1 ht hk hm hi hl hs
   refine wp_mono (wpIn_wide.1 (hr m1 γ1 w1 a1 hi hl hs trivial)) ?_
   rintro e a2 w2 hp
   have hp' :=jF.trans (rf:=c.rf) (rf1:=c.rf) (rf2:=r.rf) (ds0:=a.defers) ht hk hm (fun e=>e) (fun e=>by rw [e] at hrf;simpa using hrf) hp
   obtain ⟨m2,γ2,L2,ob2,ax,h1,h2,h3⟩:=hp'
   cases e with
   |goto l=>
    cases ax<;>first|exact h2.elim|skip
    obtain ⟨rest,q1,q2,q3⟩:=h1
    obtain ⟨h3,h4,h5,h6,h7,h8⟩:=h3
    simp only [G8] at h2
    subst h2
    exact ⟨rest,q1,oaw⟩
   |normal=>cases ax<;>first|exact h2.elim|exact ⟨m2,γ2,L2,ob2,_,h1,h2,h3⟩
   |ret=>cases ax<;>first|exact h2.elim|exact ⟨m2,γ2,L2,ob2,_,h1,h2,h3⟩
   |exit=>cases ax<;>first|exact h2.elim|exact ⟨m2,γ2,L2,ob2,_,h1,h2,h3⟩
   |panic=>cases ax<;>first|exact h2.elim|exact ⟨m2,γ2,L2,ob2,_,h1,h2,h3⟩
   |outgrown=>cases ax<;>exact h2.elim
 exact key k c (by cases c.rf<;>rfl) L ob h m γ w a (Trans.refl _ _ _) (fun _ _ _ h=>h) (Marks.none _ _ _ _ _) hi hl hs
def lS (P:Program) (n:Nat) (c:Code) (M:Tri AV) (O:Tri Ob) (N:Nat) (tm:TM) (x:AX) (M' :Tri AV) (O' :Tri Ob) (N' :Nat) (tm' :TM):Prop:=Ext tm tm' /\(cx tm'.ok=true->(∃L ob,cw M L/\bV O N ob)->Runs P n c M O N tm x M' O' N' tm')
theorem nC {c:Code} {M:Tri AV} {O:Tri Ob} {N:Nat} {tm:TM} {x:AX} {M' :Tri AV} {O' :Tri Ob} {N' :Nat} {tm' :TM} (h:Runs P n c M O N tm x M' O' N' tm') (hex: ∃L ob,cw M L/\bV O N ob): ∃L ob,cw M' L/\bV O' N' ob:=by
 obtain ⟨L,ob,h1,h2⟩:=hex
 exact (h.2 L ob h1 h2).1
theorem jn {c:Code} {M:Tri AV} {O:Tri Ob} {N:Nat} {tm:TM} {x:AX} (h: ∀df K Q L ob,Q x L ob->awp df P n K [] c Q L ob):Runs P n c M O N tm x M O N tm:=
 ⟨Kept.refl _ _,oaw⟩
theorem oM (step:Tri AV->Tri Ob->Nat->TM->RX) (k:Nat) (M:Tri AV) (O:Tri Ob) (N:Nat) (tm:TM):xJ step (k+1) M O N tm=qz (xJ step k) (step M O N tm):=rfl
theorem PL (hcf:ct P callf) (ops:List Oper) (draw:Bool) {M:Tri AV} {O:Tri Ob} {N:Nat} {tm:TM} {x:AX} {M' :Tri AV} {O' :Tri Ob} {N' :Nat} {tm' :TM} (h:EA ops draw (fV P n callf pu ops ops M O N tm)= .ok x M' O' N' tm'):Ext tm tm' :=by
 have hext:=oL (pu:=pu) (n:=n) hcf ops ops (M:=M) (O:=O) (N:=N) (tm:=tm)
 cases hr:fV P n callf pu ops ops M O N tm with
 |fail=>rw [hr] at h;cases h
 |ok recs M2 O2 N2 t2=>
  rw [hr] at h
  cases draw with
  |false=>cases h;exact hext.1 hr
  |true=>
   grind [EA]
 |pan av M2 O2 N2 t2=>
  rw [hr] at h
  cases draw with
  |false=>cases h;exact hext.2 hr
  |true=>cases h
theorem U9 {c:Code} {step:Tri AV->Tri Ob->Nat->TM->RX} (hstep: ∀{M O N tm x M' O' N' tm'},step M O N tm= .ok x M' O' N' tm' ->lS P n c M O N tm x M' O' N' tm') {x:AX} {M' :Tri AV} {O' :Tri Ob} {N' :Nat} {tm' :TM}: ∀(lf:Nat) {M:Tri AV} {O:Tri Ob} {N:Nat} {tm:TM},
  xJ step lf M O N tm= .ok x M' O' N' tm' ->lS P n (.loop c) M O N tm x M' O' N' tm' :=by
 have ext: ∀(lf:Nat) {M:Tri AV} {O:Tri Ob} {N:Nat} {tm:TM},xJ step lf M O N tm= .ok x M' O' N' tm' ->Ext tm tm' :=by
  intro lf
  induction lf with
  |zero=>intro M O N tm h;cases h
  |succ k ih=>
   intro M O N tm h
   rw [oM] at h
   cases hs:step M O N tm with
   |fail=>rw [hs] at h;cases h
   |ok x1 M1 O1 N1 t1=>
    rw [hs] at h
    have he:=(hstep hs).1
    cases x1 with
    |normal=>exact he.trans (ih h)
    |_=>cases h;exact he
 have first: ∀(lf:Nat) {M:Tri AV} {O:Tri Ob} {N:Nat} {tm:TM},xJ step lf M O N tm= .ok x M' O' N' tm' ->cx tm'.ok=true->(∃L ob,cw M L/\bV O N ob)->Kept O O' tm tm' /\ ∃L' ob',cw M' L' /\bV O' N' ob' :=by
  intro lf
  induction lf with
  |zero=>intro M O N tm h _;cases h
  |succ k ih=>
   intro M O N tm h hok hex
   rw [oM] at h
   cases hs:step M O N tm with
   |fail=>rw [hs] at h;cases h
   |ok x1 M1 O1 N1 t1=>
    rw [hs] at h
    cases x1 with
    |normal=>
     simp only [qz] at h
     have hr:=(hstep hs).2 ((ext k h).ok hok) hex
     obtain ⟨k1,k2⟩:=ih h hok (nC hr hex)
     exact ⟨hr.1.trans k1,k2⟩
    |_=>
     simp only [qz,RX.ok.injEq] at h
     obtain ⟨rfl,rfl,rfl,rfl,rfl⟩:=h
     have hr:=(hstep hs).2 hok hex
     exact ⟨hr.1,nC hr hex⟩
 intro lf M O N tm h
 refine ⟨ext lf h,fun hok hex=> ?_⟩
 refine ⟨(first lf h hok hex).1,fun L ob hM hO=>⟨(first lf h hok ⟨L,ob,hM,hO⟩).2,fun df K Q hdo hq=> ?_⟩⟩
 refine mf (ι:=Nat×Loc×List Ob) (fun i=>i.2.1) (fun i=>i.2.2) (fun i=> ∃M O N tm,cw M i.2.1/\bV O N i.2.2/\xJ step i.1 M O N tm= .ok x M' O' N' tm') (fun i=>i.1) (lf,L,ob) ⟨M,O,N,tm,hM,hO,h⟩ (Sub.refl _) rfl ?_
 rintro ⟨k,Li,obi⟩ ⟨Mi,Oi,Ni,ti,hMi,hOi,hi⟩
 cases k with
 |zero=>cases hi
 |succ k=>
  rw [oM] at hi
  cases hs:step Mi Oi Ni ti with
  |fail=>rw [hs] at hi;cases hi
  |ok x1 M1 O1 N1 t1=>
   rw [hs] at hi
   cases x1 with
   |normal=>
    simp only [qz] at hi
    have hr:=(hstep hs).2 ((ext k hi).ok hok) ⟨Li,obi,hMi,hOi⟩
    refine ((hr.2 Li obi hMi hOi).2 df K _ hdo) fun L' ob' hM' hO' => ?_
    exact ⟨(k,L',ob'),⟨M1,O1,N1,t1,hM',hO',hi⟩,Nat.lt_succ_self k,Sub.refl _,rfl⟩
   |_=>
    simp only [qz,RX.ok.injEq] at hi
    obtain ⟨rfl,rfl,rfl,rfl,rfl⟩:=hi
    have hr:=(hstep hs).2 hok ⟨Li,obi,hMi,hOi⟩
    exact ((hr.2 Li obi hMi hOi).2 df K _ hdo) fun L' ob' hM' hO' =>hq L' ob' hM' hO'
theorem PM (hcf:ct P callf) {g:Operand} {ps:Array Tmp} {a b:Code} {M:Tri AV} {O:Tri Ob} {N:Nat} {tm:TM} {x:AX} {M' :Tri AV} {O' :Tri Ob} {N' :Nat} {tm' :TM}
  (h:rngR n callf g ps a b M O N tm= .ok x M' O' N' tm'):lS P n (.rangeFunc g ps a b) M O N tm x M' O' N' tm' :=by simp only [rngR] at h;cases h
theorem HI (run:Code->Tri AV->Tri Ob->Nat->TM->RX) (c:Code) (x:RX):oK run c 0 x=noGo x:=rfl
theorem HJ (run:Code->Tri AV->Tri Ob->Nat->TM->RX) (c:Code) (k:Nat) (x:RX):oK run c (k+1) x=PC run c (oK run c k) x:=rfl
theorem PN {run:Code->Tri AV->Tri Ob->Nat->TM->RX} (hrun: ∀{c:Code} {M:Tri AV} {O:Tri Ob} {N:Nat} {tm:TM} {x:AX} {M' :Tri AV} {O' :Tri Ob} {N' :Nat} {tm' :TM},run c M O N tm= .ok x M' O' N' tm' ->lS P n c M O N tm x M' O' N' tm') {c:Code} {x:AX} {M' :Tri AV} {O' :Tri Ob} {N' :Nat} {tm' :TM}: ∀(k:Nat) {r:Code} {M:Tri AV} {O:Tri Ob} {N:Nat} {tm:TM} {y:RX},
  (∀{x' M1 O1 N1 t1},y= .ok x' M1 O1 N1 t1->lS P n r M O N tm x' M1 O1 N1 t1)->oK run c k y= .ok x M' O' N' tm' ->Ext tm tm' /\(cx tm'.ok=true->(∃L ob,cw M L/\bV O N ob)->Kept O O' tm tm' /\ ∀L ob,cw M L->bV O N ob->(∃L' ob',cw M' L' /\bV O' N' ob')/\ ∀K Q,(∀L' ob',cw M' L' ->bV O' N' ob' ->Q x L' ob')->awp none P n K [] r (NC P n K [] c Q k) L ob):=by
 have fin: ∀(k:Nat) {r:Code} {M:Tri AV} {O:Tri Ob} {N:Nat} {tm:TM},(∀l,x≠ .goto l)->lS P n r M O N tm x M' O' N' tm' ->Ext tm tm' /\(cx tm'.ok=true->(∃L ob,cw M L/\bV O N ob)->Kept O O' tm tm' /\ ∀L ob,cw M L->bV O N ob->(∃L' ob',cw M' L' /\bV O' N' ob')/\ ∀K Q,(∀L' ob',cw M' L' ->bV O' N' ob' ->Q x L' ob')->awp none P n K [] r (NC P n K [] c Q k) L ob):=by
  intro k r M O N tm hx hr
  refine ⟨hr.1,fun hok hex=>⟨(hr.2 hok hex).1,fun L ob hM hO=>⟨((hr.2 hok hex).2 L ob hM hO).1,fun K Q hq=> ?_⟩⟩⟩
  exact ((hr.2 hok hex).2 L ob hM hO).2 none K _ (.inl rfl) (by grind [U8])
 intro k
 induction k with
 |zero=>
  intro r M O N tm y hy h
  rw [HI] at h
  cases y with
  |fail=>cases h
  |ok x1 M1 O1 N1 t1=>
   cases x1 with
   |goto l=>cases h
   |_=>cases h;exact fin 0 oai (hy rfl)
 |succ k ih=>
  intro r M O N tm y hy h
  rw [HJ] at h
  cases y with
  |fail=>cases h
  |ok x1 M1 O1 N1 t1=>
   cases x1 with
   |goto l=>
    simp only [PC] at h
    split at h
    rotate_left;·cases h
    rename_i rest hf
    cases hc: !rest.rf||c.rf with
    |false=>rw [hc] at h;cases h
    |true=>
     rw [hc] at h
     simp only [cond_true] at h
     obtain ⟨e1,k1⟩:=hy rfl
     obtain ⟨e2,k2⟩:=ih (r:=rest) (M:=M1) (O:=O1) (N:=N1) (tm:=t1) (fun h=>hrun h) h
     refine ⟨e1.trans e2,fun hok hex=> ?_⟩
     have r1:=k1 (e2.ok hok) hex
     have r2:=k2 hok (nC r1 hex)
     refine ⟨r1.1.trans r2.1,fun L ob hM hO=> ?_⟩
     obtain ⟨⟨L1,ob1,a1,a2⟩,a3⟩:=r1.2 L ob hM hO
     refine ⟨(r2.2 L1 ob1 a1 a2).1,fun K Q hq=>a3 none K _ (.inl rfl) fun L' ob' hM' hO' => ?_⟩
     exact ⟨rest,hf,hc,(r2.2 L' ob' hM' hO').2 K Q hq⟩
   |_=>cases h;exact fin (k+1) oai (hy rfl)
theorem PO {run:Code->Tri AV->Tri Ob->Nat->TM->RX} (hrun: ∀{c:Code} {M:Tri AV} {O:Tri Ob} {N:Nat} {tm:TM} {x:AX} {M' :Tri AV} {O' :Tri Ob} {N' :Nat} {tm' :TM},run c M O N tm= .ok x M' O' N' tm' ->lS P n c M O N tm x M' O' N' tm') {c:Code} (k:Nat) {x:AX} {M M' :Tri AV} {O O' :Tri Ob} {N N' :Nat} {tm tm' :TM} {y:RX}
  (hy: ∀{x' M1 O1 N1 t1},y= .ok x' M1 O1 N1 t1->lS P n c M O N tm x' M1 O1 N1 t1) (h:oK run c k y= .ok x M' O' N' tm'):lS P n (.scope c) M O N tm x M' O' N' tm' :=by
 obtain ⟨e1,k1⟩:=PN hrun (r:=c) k hy h
 refine ⟨e1,fun hok hex=> ?_⟩
 have h1:=k1 hok hex
 refine ⟨h1.1,fun L ob hM hO=>⟨(h1.2 L ob hM hO).1,fun df K Q hd hq=> ?_⟩⟩
 obtain rfl:df=none:=hd.resolve_right (fun e=>by cases e)
 exact CT k ((h1.2 L ob hM hO).2 K Q hq)
theorem iY {run:Code->Tri AV->Tri Ob->Nat->TM->RX} (hrun: ∀{c:Code} {M:Tri AV} {O:Tri Ob} {N:Nat} {tm:TM} {x:AX} {M' :Tri AV} {O' :Tri Ob} {N' :Nat} {tm' :TM},run c M O N tm= .ok x M' O' N' tm' ->lS P n c M O N tm x M' O' N' tm') (hcf:ct P callf) (hm:P.follows .mixedOrders=true) (lf:Nat): ∀(c:Code) {M:Tri AV} {O:Tri Ob} {N:Nat} {tm:TM} {x:AX} {M' :Tri AV} {O' :Tri Ob} {N' :Nat} {tm' :TM},xL run P n callf pu lf c M O N tm= .ok x M' O' N' tm' ->lS P n c M O N tm x M' O' N' tm'
 | .skip,M,O,N,tm,x,M',O',N',tm',h=>by cases h;exact ⟨Ext.refl _,(by grind [jn,Ha])⟩
 | .label l,M,O,N,tm,x,M',O',N',tm',h=>by cases h;exact ⟨Ext.refl _,(by grind [jn,Nd])⟩
 | .ret,M,O,N,tm,x,M',O',N',tm',h=>by cases h;exact ⟨Ext.refl _,(by grind [jn,LN])⟩
 | .exit id,M,O,N,tm,x,M',O',N',tm',h=>by cases h;exact ⟨Ext.refl _,(by grind [jn,Pb])⟩
 | .region id ops draw,M,O,N,tm,x,M',O',N',tm',h=>⟨PL hcf ops.toList draw h,NB hcf hm id ops draw h⟩
 | .seq a b,M,O,N,tm,x,M',O',N',tm',h=>by
  replace h:qz (xL run P n callf pu lf b) (xL run P n callf pu lf a M O N tm)= .ok x M' O' N' tm' :=h
  cases ha:xL run P n callf pu lf a M O N tm with
  |fail=>rw [ha] at h;cases h
  |ok x1 M1 O1 N1 t1=>
   rw [ha] at h
   obtain ⟨e1,k1⟩:=iY hrun hcf hm lf a ha
   cases x1 with
   |normal=>
    obtain ⟨e2,k2⟩:=iY hrun hcf hm lf b h
    refine ⟨e1.trans e2,fun hok hex=> ?_⟩
    have h1:=k1 (e2.ok hok) hex
    have h2:=k2 hok (nC h1 hex)
    refine ⟨h1.1.trans h2.1,fun L ob hM hO=> ?_⟩
    obtain ⟨⟨L1,ob1,q1,q2⟩,q3⟩:=h1.2 L ob hM hO
    exact ⟨(h2.2 L1 ob1 q1 q2).1,fun df K Q hd hq=>ia (q3 df K _ (hd.imp (fun h=>h) oaj) fun L' ob' hM' hO' =>(h2.2 L' ob' hM' hO').2 df K Q (hd.imp (fun h=>h) oaj) hq)⟩
   |_=>
    cases h
    refine ⟨e1,fun hok hex=> ?_⟩
    have h1:=k1 hok hex
    exact ⟨h1.1,fun L ob hM hO=>⟨(h1.2 L ob hM hO).1,fun df K Q hd hq=>ia ((h1.2 L ob hM hO).2 df K _ (hd.imp (fun h=>h) oaj) fun L' ob' hM' hO' =>hq L' ob' hM' hO')⟩⟩
 | .cond c a b,M,O,N,tm,x,M',O',N',tm',h=>by
  replace h:xK (xL run P n callf pu lf a) (xL run P n callf pu lf b) M O N tm (tev M c)= .ok x M' O' N' tm' :=h
  have hev: ∀L,cw M L->ba L c=tev M c:=fun L hM=>by rw [hM.tev]
  unfold xK at h
  split at h
  ·rename_i hc
   obtain ⟨e1,k1⟩:=iY hrun hcf hm lf a h
   refine ⟨e1,fun hok hex=> ?_⟩
   have h1:=k1 hok hex
   exact ⟨h1.1,fun L ob hM hO=>⟨(h1.2 L ob hM hO).1,fun df K Q hd hq=>eY ((hev L hM).trans hc) (fun _=>(h1.2 L ob hM hO).2 df K Q (hd.imp (fun h=>h) oaj) hq) (fun e=>by cases e)⟩⟩
  ·rename_i hc
   obtain ⟨e1,k1⟩:=iY hrun hcf hm lf b h
   refine ⟨e1,fun hok hex=> ?_⟩
   have h1:=k1 hok hex
   exact ⟨h1.1,fun L ob hM hO=>⟨(h1.2 L ob hM hO).1,fun df K Q hd hq=>eY ((hev L hM).trans hc) (fun e=>by cases e) (fun _=>(h1.2 L ob hM hO).2 df K Q (hd.imp (fun h=>h) oaj) hq)⟩⟩
  ·cases h
 | .block id c,M,O,N,tm,x,M',O',N',tm',h=>by
  replace h:oJ id (xL run P n callf pu lf c M O N tm)= .ok x M' O' N' tm' :=h
  cases hc:xL run P n callf pu lf c M O N tm with
  |fail=>rw [hc] at h;cases h
  |ok x1 M1 O1 N1 t1=>
   rw [hc] at h
   obtain ⟨e1,k1⟩:=iY hrun hcf hm lf c hc
   cases x1 with
   |exit j=>
    simp only [oJ] at h
    cases hj:Nat.beq j id with
    |true=>
     rw [hj] at h
     have:=Nat.eq_of_beq_eq_true hj
     subst this
     simp only [cond_true,RX.ok.injEq] at h
     obtain ⟨rfl,rfl,rfl,rfl,rfl⟩:=h
     refine ⟨e1,fun hok hex=> ?_⟩
     have h1:=k1 hok hex
     exact ⟨h1.1,fun L ob hM hO=>⟨(h1.2 L ob hM hO).1,fun df K Q hd hq=>dJ ((h1.2 L ob hM hO).2 df K _ (hd.imp (fun h=>h) fun e=>e) (by grind [jf]))⟩⟩
    |false=>
     rw [hj] at h
     have hne:=Nat.ne_of_beq_eq_false hj
     simp only [cond_false,RX.ok.injEq] at h
     obtain ⟨rfl,rfl,rfl,rfl,rfl⟩:=h
     refine ⟨e1,fun hok hex=> ?_⟩
     have h1:=k1 hok hex
     exact ⟨h1.1,fun L ob hM hO=>⟨(h1.2 L ob hM hO).1,fun df K Q hd hq=>dJ ((h1.2 L ob hM hO).2 df K _ (hd.imp (fun h=>h) fun e=>e) (by grind [jf]))⟩⟩
   |_=>
    cases h
    refine ⟨e1,fun hok hex=> ?_⟩
    have h1:=k1 hok hex
    exact ⟨h1.1,fun L ob hM hO=>⟨(h1.2 L ob hM hO).1,fun df K Q hd hq=>dJ ((h1.2 L ob hM hO).2 df K _ (hd.imp (fun h=>h) fun e=>e) fun L' ob' hM' hO' =>hq L' ob' hM' hO')⟩⟩
 | .loop c,M,O,N,tm,x,M',O',N',tm',h=>U9 (fun h=>iY hrun hcf hm lf c h) lf h
 | .scope c,M,O,N,tm,x,M',O',N',tm',h=>by
  replace h:oK run c lf (xL run P n callf pu lf c M O N tm)= .ok x M' O' N' tm' :=h
  exact PO hrun lf (fun h=>iY hrun hcf hm lf c h) h
 | .goto l,M,O,N,tm,x,M',O',N',tm',h=>by cases h;exact ⟨Ext.refl _,(by grind [jn,Pc])⟩
 | .rangeFunc _ _ _ _,M,O,N,tm,x,M',O',N',tm',h=>PM hcf h
 | .refuse _,M,O,N,tm,x,M',O',N',tm',h=>by cases h
theorem oN (hcf:ct P callf) (hm:P.follows .mixedOrders=true) (lf:Nat) (c:Code) {M:Tri AV} {O:Tri Ob} {N:Nat} {tm:TM} {x:AX} {M' :Tri AV} {O' :Tri Ob} {N' :Nat} {tm' :TM} (h:eu P n callf pu lf c M O N tm= .ok x M' O' N' tm'):lS P n c M O N tm x M' O' N' tm' :=
 iY (by grind [iY]) hcf hm lf c h
end
section
variable {P:Program} {callf:cI} {pu:FuncId->Bool}
theorem jO {M:Tri AV} {L:Loc} {O:Tri Ob} {N:Nat} {ob:List Ob} (hM:cw M L) (hO:bV O N ob): ∀{rs:List ResultVar} {avs:List AV},lA P M O rs=some avs->nU P L ob rs avs
 |[],avs,h=>by simp only [lA,Option.some.injEq] at h;subst h;exact .nil
 | .tmp t::rs,avs,h=>by
  simp only [lA] at h
  split at h
  ·rename_i av aS h1 h2;cases h;exact .tmp ((hM t).symm.trans h1) (jO hM hO h2)
  ·cases h
 | .cell t ty::rs,avs,h=>by
  simp only [lA] at h
  split at h
  ·rename_i o off g k aS h1 h2 h3
   have h1' :=(hM t).symm.trans h1
   split at h
   ·rename_i cells ho
    have ho' :=(hO.2 o).symm.trans ho
    split at h
    ·cases hb:Nat.ble (off+k) cells.length with
     |false=>rw [hb] at h;cases h
     |true=>rw [hb] at h;cases h;exact .agg h2 h1' ho' (Nat.le_of_ble_eq_true hb) (jO hM hO h3)
    ·split at h
     ·rename_i c hc;cases h;exact .one h2 h1' ho' hc (jO hM hO h3)
     ·cases h
   ·cases h
  ·cases h
theorem Le.all {m m1 m2:Mem} {γ γ1 γ2:Gam} (h:Le m γ [] m1 γ1) (k:Le m1 γ1 [] m2 γ2):Le m γ [] m2 γ2:=
 ⟨fun b x e=>k.mem b x (h.mem b x e),fun o g hg hc=>k.gam o g (h.gam o g hg hc) hc⟩
theorem Va {f:FuncId} {args:List AV} {ob:List Ob} {M:Tri AV} {O O0:Tri Ob} {N:Nat} {tm tm0:TM} {rs:List ResultVar} (h0:bV O0 ob.length ob) (hA: ∀avs,lA P M O rs=some avs-> ∃ob1,bV O N ob1/\bg P f args ob [] (gO avs) ob1) (hk:Kept O0 O tm0 tm)
  {r:AV} {O1:Tri Ob} {N1:Nat} {t1:TM} (h:EB P ob.length rs M O N tm= .ret r O1 N1 t1): ∃ob1,bV O1 N1 ob1/\bg P f args ob [] r ob1/\ ∀i,tb t1.lo i=false->O1.get i=O0.get i:=by
 unfold EB at h
 split at h
 ·rename_i avs hr
  obtain ⟨ob1,h1,h2⟩:=hA avs hr
  unfold L6 at h
  cases hc:Nat.beq ob.length 0&&(!Nat.beq N 0&&tm.syn ((gO avs).und 0) false) with
  |false=>
   rw [hc] at h
   cases h
   exact ⟨ob1,h1,h2,hk.2⟩
  |true=>
   rw [hc] at h
   simp only [Bool.and_eq_true] at hc
   cases h
   have:ob=[]:=List.eq_nil_of_length_eq_zero (Nat.eq_of_beq_eq_true hc.1)
   subst this
   exact ⟨[],bV.nil,kz (h2.mono fun e o ⟨g1,g2⟩=>⟨g1,o,by simp⟩) (Nat.le_refl _) (CP hc.2.2) rfl,fun i _=>by rw [h0.2];simp [jc]⟩
 ·cases h
theorem PQ {N0:Nat} {M:Tri AV} {O:Tri Ob} {N:Nat} {tm:TM} {rs:List ResultVar} {r:AV} {O1:Tri Ob} {N1:Nat} {t1:TM} (h:EB P N0 rs M O N tm= .ret r O1 N1 t1):t1.ok=tm.ok:=by
 unfold EB at h
 split at h
 ·rename_i avs _
  unfold L6 at h
  cases hc:Nat.beq N0 0&&(!Nat.beq N 0&&tm.syn ((gO avs).und 0) false)<;>(rw [hc] at h;cases h;rfl)
 ·cases h
theorem HK {N0:Nat} {M:Tri AV} {O:Tri Ob} {N:Nat} {tm:TM} {rs:List ResultVar} {av:AV} {O1:Tri Ob} {N1:Nat} {t1:TM} (h:EB P N0 rs M O N tm= .pan av O1 N1 t1):False:=by
 grind [EB,L6]
theorem Marks.out {rf:Bool} {ds0 ds:List Deferred} {w0:World} {γ:Gam} {w:World} (h:Marks rf ds0 w0 ds γ w) (hr:rf=false):ds=ds0:=by
 obtain ⟨Ds,h1,h2,_⟩:=h
 simp_all
def DOk (P:Program) (g:FuncId) (args:List AV) (pan:Option AV) (ob ob' :List Ob):Prop:=
 ∀(m:Mem) (γ:Gam) (w:World) (vs:List Value) (u:FrameMode),Inv m γ ob w->aB m γ args vs->
  (match pan with
   |none=>u= .returning
   |some av=> ∃v,u= .panicking [{v,recovered:=false}]/\Rep m γ av v)->
  CallsD P g vs.toArray u w fun e u' w' =>(∃v,e= .returned v)/\settle u' = .returning/\ ∃m' γ',Trans m γ w m' γ' w' /\Inv m' γ' ob' w' /\Le m γ [] m' γ'
theorem Vb (hcf:ct P callf) (hm:P.follows .mixedOrders=true) (lf:Nat) {f:FuncId} {fn:Func} (hf:P.funcs[f]? =some fn) (hname:(fn.name== "runtime.NumGoroutine")=false) {c a b:Code} {all l:List Oper} {x:Operand} (hb:fn.body=some c) (hsp:PD c=some (a,all,l,x,b)) (harf:a.rf=false) (hbrf:b.rf=false)
  {args:List AV} (hn:args.length<=fn.ntmps) {O:Tri Ob} {N:Nat} {tm:TM} {res:CR} (h:runD P pu lf callf fn.ntmps N fn.results.toList all l x b (eu P fn.ntmps callf pu lf a (l8 0 args .e) O N (tm.at N))=res):
  (∀r O1 N1 t1,res= .ret r O1 N1 t1->Ext tm t1/\(cx t1.ok=true-> ∀ob,bV O N ob-> ∃ob1,bV O1 N1 ob1/\bg P f args ob [] r ob1/\ ∀i,tb t1.lo i=false->O1.get i=O.get i))/\(∀av O1 N1 tm,res= .pan av O1 N1 tm->False):=by grind [runD]
theorem y_ok (hcf:ct P callf) (hm:P.follows .mixedOrders=true) (lf:Nat) {f:FuncId} (hf:dQ<=f) (args:List AV) (O:Tri Ob) (N:Nat) (tm:TM):
  (∀r O1 N1 t1,Nt P pu lf callf (f-dQ) args O N tm= .ret r O1 N1 t1->Ext tm t1/\(cx t1.ok=true-> ∀ob,bV O N ob-> ∃ob1,bV O1 N1 ob1/\qB P f args ob r ob1/\ ∀i,tb t1.lo i=false->O1.get i=O.get i))/\
  (∀av O1 N1 t1,Nt P pu lf callf (f-dQ) args O N tm= .pan av O1 N1 t1->f<dQ/\Ext tm t1/\(cx t1.ok=true-> ∀ob,bV O N ob-> ∃ob1,bV O1 N1 ob1/\Ny P f args ob av ob1/\ ∀i,tb t1.lo i=false->O1.get i=O.get i)):=(by grind [Nt])
theorem nD {f:FuncId} (hf:Nat.blt f dQ=true) {args:List AV} {ob:List Ob} {r:AV} {ob1:List Ob} (h:bg P f args ob [] r ob1):qB P f args ob r ob1:=qB.of (Nat.le_of_ble_eq_true hf) h
theorem XZ (lf k:Nat) (f:FuncId) (args:List AV) (O:Tri Ob) (N:Nat) (tm:TM):Hy P pu lf (k+1) f args O N tm=(cond (!Nat.blt f dQ) (Nt P pu lf (Hy P pu lf k) (f-dQ) args O N tm)<|match P.funcs[f]? with
   |some fn=>match fn.body with
    |some c=>cond (Nat.ble args.length fn.ntmps&& !(fn.name== "runtime.NumGoroutine")) (nz P pu lf (Hy P pu lf k) fn c args O N tm) .fail
    |none=> .fail
   |none=> .fail):=rfl
theorem dy (P:Program) (f:FuncId) (args:List AV) (O:Tri Ob) (N:Nat) (tm:TM):
  (∀r O1 N1 t1,CR.fail= .ret r O1 N1 t1->Ext tm t1/\(cx t1.ok=true-> ∀ob,bV O N ob-> ∃ob1,bV O1 N1 ob1/\qB P f args ob r ob1/\ ∀i,tb t1.lo i=false->O1.get i=O.get i))/\
  (∀av O1 N1 t1,CR.fail= .pan av O1 N1 t1->f<dQ/\Ext tm t1/\(cx t1.ok=true-> ∀ob,bV O N ob-> ∃ob1,bV O1 N1 ob1/\Ny P f args ob av ob1/\ ∀i,tb t1.lo i=false->O1.get i=O.get i)):=
 oaI
theorem fn_ok {callf:cI} (hcf:ct P callf) (hm:P.follows .mixedOrders=true) (pu:FuncId->Bool) (lf:Nat) {f:FuncId} (hY:f<dQ) {fn:Func} (hf:P.funcs[f]? =some fn) {c:Code} (hb:fn.body=some c) (hname:(fn.name== "runtime.NumGoroutine")=false) {args:List AV} (hn:args.length<=fn.ntmps) (O:Tri Ob) (N:Nat) (tm:TM):
  (∀r O1 N1 t1,nz P pu lf callf fn c args O N tm= .ret r O1 N1 t1->Ext tm t1/\(cx t1.ok=true-> ∀ob,bV O N ob-> ∃ob1,bV O1 N1 ob1/\qB P f args ob r ob1/\ ∀i,tb t1.lo i=false->O1.get i=O.get i))/\
  (∀av O1 N1 t1,nz P pu lf callf fn c args O N tm= .pan av O1 N1 t1->f<dQ/\Ext tm t1/\(cx t1.ok=true-> ∀ob,bV O N ob-> ∃ob1,bV O1 N1 ob1/\Ny P f args ob av ob1/\ ∀i,tb t1.lo i=false->O1.get i=O.get i)):=by
 unfold nz
 split
 ·rename_i hsp
  cases hrun:eu P fn.ntmps callf pu lf c (l8 0 args .e) O N (tm.at N) with
  |fail=>exact dy P f args O N tm
  |ok x M O1 N1 t1=>
   obtain ⟨e1,k1⟩:=oN hcf hm lf c hrun
   have hA:(x= .normal\/x= .ret)-> ∀r Or Nr tr,EB P N fn.results.toList M O1 N1 t1= .ret r Or Nr tr->Ext tm tr/\(cx tr.ok=true-> ∀ob,bV O N ob-> ∃ob1,bV Or Nr ob1/\qB P f args ob r ob1/\ ∀i,tb tr.lo i=false->Or.get i=O.get i):=by
    intro hx r Or Nr tr e
    have eok:=PQ e
    refine ⟨⟨e1.choose,by rw [eok];exact e1.choose_spec⟩,fun hok0 ob hO=> ?_⟩
    have hok:cx t1.ok=true:=by rw [<-eok];exact hok0
    have hNlen:=hO.1
    subst hNlen
    have hr:=k1 hok ⟨fo 0 args,ob,fa args,hO⟩
    obtain ⟨⟨L1,ob1,a1,a2⟩,a3⟩:=hr.2 (fo 0 args) ob (fa args) hO
    obtain ⟨ob3,z1,z2,z3⟩:=Va (P:=P) (f:=f) (args:=args) (O0:=O) (tm0:=tm.at ob.length) hO (fun avs hres=>⟨ob1,a2,jZ hf hname hb hn (a3 none ob.length _ (.inl rfl) fun L' ob' hM' hO' =>by
     have hv:=jO hM' hO' hres
     have eq:=hO'.uniq a2
     rcases hx with rfl|rfl
     ·exact ⟨avs,hv,rfl,eq⟩
     ·exact ⟨avs,hv,rfl,eq⟩)⟩) hr.1 e
    exact ⟨ob3,z1,qB.of hY z2,z3⟩
   cases x with
   |normal=>exact ⟨hA (.inl rfl),fun av Or Nr tr e=>(HK e).elim⟩
   |ret=>exact ⟨hA (.inr rfl),fun av Or Nr tr e=>(HK e).elim⟩
   |panic av0=>
    refine ⟨fun r Or Nr tr e=>oax,fun av Or Nr tr e=> ?_⟩
    cases e
    refine ⟨hY,e1,fun hok ob hO=> ?_⟩
    have hNlen:=hO.1
    subst hNlen
    have hr:=k1 hok ⟨fo 0 args,ob,fa args,hO⟩
    obtain ⟨⟨L1,ob1,a1,a2⟩,a3⟩:=hr.2 (fo 0 args) ob (fa args) hO
    exact ⟨ob1,a2,jZ hf hname hb hn (a3 none ob.length _ (.inl rfl) fun L' ob' hM' hO' =>⟨rfl,hO'.uniq a2⟩),hr.1.2⟩
   |exit j=>exact dy P f args O N tm
   |goto j=>exact dy P f args O N tm
 ·rename_i a all l x b hsp
  cases hrf:a.rf||b.rf with
  |true=>exact dy P f args O N tm
  |false=>
   simp only [Bool.or_eq_false_iff] at hrf
   obtain ⟨g1,g2⟩:=Vb (pu:=pu) hcf hm lf hf hname hb hsp hrf.1 hrf.2 hn (O:=O) (N:=N) (tm:=tm) rfl
   refine ⟨fun r O1 N1 t1 e=> ?_,fun av O1 N1 tm e=>(g2 av O1 N1 tm e).elim⟩
   obtain ⟨q1,q2⟩:=g1 r O1 N1 t1 e
   refine ⟨q1,fun hok ob hO=> ?_⟩
   obtain ⟨ob1,z1,z2,z3⟩:=q2 hok ob hO
   exact ⟨ob1,z1,qB.of hY z2,z3⟩
noncomputable def JM (P:Program) (pu:FuncId->Bool) (lf:Nat) (callf:cI):cI:=fun f args O N tm=>cond (!Nat.blt f dQ) (Nt P pu lf callf (f-dQ) args O N tm)<|match P.funcs[f]? with
 |some fn=>match fn.body with
  |some c=>cond (Nat.ble args.length fn.ntmps&& !(fn.name== "runtime.NumGoroutine")) (nz P pu lf callf fn c args O N tm) .fail
  |none=> .fail
 |none=> .fail
theorem CU {callf:cI} (hcf:ct P callf) (hm:P.follows .mixedOrders=true) (pu:FuncId->Bool) (lf:Nat):ct P (JM P pu lf callf):=fun f args O N tm=>by
 unfold JM
 cases hY:Nat.blt f dQ with
 |false=>
  have hf:dQ<=f:=(by grind [Nat.blt,Nat.ble_eq_true_of_le])
  simp only [Bool.not_false,cond_true]
  exact y_ok hcf hm lf hf args O N tm
 |true=>
 simp only [Bool.not_true,cond_false]
 have hfy:f<dQ:=Nat.le_of_ble_eq_true hY
 split
 rotate_left;·exact dy P f args O N tm
 rename_i fn hf
 split
 rotate_left;·exact dy P f args O N tm
 rename_i c hb
 cases hc:Nat.ble args.length fn.ntmps&& !(fn.name== "runtime.NumGoroutine") with
 |false=>exact dy P f args O N tm
 |true=>
  simp only [Bool.and_eq_true,Bool.not_eq_true'] at hc
  simp only [cond_true]
  exact fn_ok hcf hm pu lf hfy hf hb hc.2 (Nat.le_of_ble_eq_true hc.1) O N tm
theorem HL (hm:P.follows .mixedOrders=true) (pu:FuncId->Bool) (lf:Nat): ∀k,ct P (Hy P pu lf k)
 |0=>fun f args O N tm=>dy P f args O N tm
 |k+1=>fun f args O N tm=>CU (HL hm pu lf k) hm pu lf f args O N tm
theorem JN {callf:cI} (hcf:ct P callf) {f:FuncId} {args:List AV} {r:AV} {tm t1:TM} (h:callf f args .e 0 tm= .ret r .e 0 t1) (hok:cx t1.ok=true) (hY:Nat.blt f dQ=true:=by rfl):bg P f args [] [] r []:=by
 obtain ⟨ob1,h1,h2,_⟩:=((hcf f args .e 0 tm).1 _ _ _ _ h).2 hok [] bV.nil
 have:ob1=[]:=List.eq_nil_of_length_eq_zero h1.1
 rw [this] at h2
 exact h2.1 (Nat.le_of_ble_eq_true hY)
end
noncomputable def bz:Loc->Tri AV
 |[]=> .e
 |(t,av)::L=>(bz L).set av t
theorem gD: ∀L:Loc,cw (bz L) L
 |[]=>cw.nil
 |(t,av)::L=>fun s=>by
  rw [bz,di,dk,gD L s]
noncomputable def bw (ob:List Ob):Tri Ob:=xG 0 ob .e
theorem e7 (ob:List Ob):bV (bw ob) ob.length ob:=
 ⟨rfl,fun i=>by rw [bw,sC ob 0 .e (fun j _=>rfl) i,if_neg oab,Nat.sub_zero]⟩
def eT:AX->Bool
 | .panic _=>false
 |_=>true
section
variable {df:Option Nat} {P:Program} {n K:Nat}
def Piece (P:Program) (n K:Nat) (c:Code) (L:Loc) (ob:List Ob) (x:AX) (L' :Loc) (ob' :List Ob):Prop:= ∀(df:Option Nat) (Q:dI),jG df c->Q x L' ob' ->awp df P n K [] c Q L ob
noncomputable def gJ (Ma sel:List Nat):RX->Option (AX×List (Option AV)×List (Option Ob)×Nat×List Bool)
 | .ok x M O N t=>some (x,Ma.map M.get,sel.map O.get,N,t.ok)
 | .fail=>none
def l9 (f:Nat->Nat) (l:Loc):List (Option AV):=l.map fun p=>some (p.2.ren f)
def lB:List Nat->Bool
 |[]=>true
 |a::l=> !l.contains a&&lB l
theorem iz: ∀{l:List Nat},lB l=true->l.Nodup
 |[],_=>List.nodup_nil
 |a::l,h=>by
  simp only [lB,Bool.and_eq_true,Bool.not_eq_true'] at h
  exact List.nodup_cons.2 ⟨by simpa using h.1,iz h.2⟩
theorem kF {M:Tri AV} {f:Nat->Nat}: ∀{l:Loc},(l.map (·.1)).map M.get=l9 f l-> ∀t av,lk l t=some av->M.get t=some (av.ren f)
 |[],_,t,av,h=>by simp [lk] at h
 |(s,bv)::l,e,t,av,h=>by
  simp only [l9,List.map_cons,List.cons.injEq] at e
  rw [dk] at h
  by_cases hs:s=t
  ·simp_all
  ·rw [if_neg hs] at h;exact kF e.2 t av h
theorem dK {a b:Code} {L L1 L2:Loc} {ob ob1 ob2:List Ob} {x:AX} (h:Piece P n K a L ob .normal L1 ob1) (k:Piece P n K b L1 ob1 x L2 ob2):Piece P n K (.seq a b) L ob x L2 ob2:=
 fun df Q hd hq=>ia (h df _ (hd.imp (fun e=>e) oaj) (k df Q (hd.imp (fun e=>e) oaj) hq))
theorem Vc {f:FuncId} {args:List AV} {r:AV} (h:bg P f args [] [] r []) (hp:ah args=true) (hr:r.pure=true) (ob:List Ob):bg P f args ob [] r ob:=by
 refine ⟨h.1,fun m γ w vs hi hv=> ?_⟩
 have hget: ∀(i s:Nat) (X:Ob),([]:List Nat)[i]? =some s->([]:List Ob)[i]? =some X->ob[s]? =some (X.ren (b0 [] ob.length))/\X≠ .dead:=fun i s X e=>by simp at e
 refine (h.2 m _ w vs (nv hi List.nodup_nil rfl hget) ((cn _ _).2 (by rw [cD _ _ hp];exact hv))).mono ?_
 rintro e w' ⟨m',γc,r',obc',⟨rfl,rfl⟩,h2,h3,h4,h5⟩
 obtain ⟨γ',g1,g2,g3,g4⟩:=ky hi (kk:=[]) List.nodup_nil rfl hget (Nat.le_refl _) oai h3 h4 h5
 rw [Hh] at g4
 refine ⟨m',γ',_,ob,⟨rfl,rfl⟩,?_,g2,g4,fun o g hk hg=>g3.gam o g hg hk⟩
 cases e with
 |returned v=>
  have h2' :Rep m' γc r v:=h2
  rw [<-show (fun k=>γ' (b0 [] ob.length k))=γc from funext g1,dM,fJ _ _ hr] at h2'
  exact h2'
 |panicked c=>exact h2.elim
 |outgrown=>exact h2.elim
end
def Frz (o:Nat) (X:Ob) (av av' :AV):Prop:= ∀m γ m',FrzM m γ o X m' -> ∀x,Rep m γ av x->Rep m' γ av' x
def jH (o:Nat) (X:Ob) (cs cs' :List AV):Prop:= ∀m γ m',FrzM m γ o X m' -> ∀xs,aB m γ cs xs->aB m' γ cs' xs
section
variable {o:Nat} {X:Ob}
theorem Frz.same (av:AV):Frz o X av av:=fun _m _γ _m' h x hr=>fm h.le av x (AV.ef _) hr
theorem jH.nil:jH o X [] []:=fun _ _ _ _ _ h=>by simpa only [aB] using h
theorem jH.cons {c c' :AV} {cs cs' :List AV} (h:Frz o X c c') (k:jH o X cs cs'):jH o X (c::cs) (c' ::cs'):=fun m γ m' hm xs hr=>by
 simp only [aB] at hr⊢
 obtain ⟨x,r,rfl,h1,h2⟩:=hr
 exact ⟨x,r,rfl,h m γ m' hm x h1,k m γ m' hm r h2⟩
theorem jH.same (cs:List AV):jH o X cs cs:=fun _m _γ _m' h xs hr=>dL h.le cs xs (dq _) hr
theorem Frz.tu {cs cs' :List AV} (h:jH o X cs cs'):Frz o X (.tu cs) (.tu cs'):=fun m γ m' hm x hr=>by
 simp only [Rep] at hr⊢
 obtain ⟨xs,h1,h2⟩:=hr
 exact ⟨xs,h1,h m γ m' hm xs h2⟩
theorem Frz.ag {cs cs' :List AV} (h:jH o X cs cs'):Frz o X (.ag cs) (.ag cs'):=fun m γ m' hm x hr=>by
 simp only [Rep] at hr⊢
 obtain ⟨xs,h1,h2⟩:=hr
 exact ⟨xs,h1,h m γ m' hm xs h2⟩
theorem Frz.sr {T S lo len:Nat} {rows:List (List AV)} (hX:X= .row T S rows) (h:lo+len<=rows.length):Frz o X (.sr o S lo len) (.sl S ((rows.drop lo).take len)):=fun m γ m' hm x hr=>by
 simp only [Rep] at hr⊢
 have hl:((rows.drop lo).take len).length=len:=by simp;omega
 rcases hr with ⟨_,⟨a,rfl⟩,rfl,rfl⟩|⟨b,C,cap,g1,g2,g3,g4,g5⟩
 ·grind
 ·rcases g5 with rfl|⟨rfl,_,a,rfl⟩
  ·refine ⟨_,_,_,rfl,hl.symm,g3,?_⟩
   rcases hm.row T S rows hX with ⟨h1,_⟩|⟨b',C',h1,_,h3⟩
   ·rw [g1] at h1;cases h1
   ·rw [g1] at h1
    cases h1
    refine .inr ⟨b,lo*S,rfl,iU ?_ len⟩
    have:=iT h3 lo
    rwa [Nat.zero_add] at this
  grind
theorem Frz.sr0 {T S n:Nat} {rows:List (List AV)} (hX:X= .row T S rows) (h:n=rows.length):Frz o X (.sr o S 0 n) (.sl S rows):=by
 have:=Frz.sr (o:=o) (lo:=0) (len:=n) hX oab
 rwa [List.drop_zero,List.take_of_length_le oab] at this
theorem Frz.pt {Tb:TypeId} {cells:List AV} {off:Nat} (hX:X= .box Tb cells):Frz o X (.pt o off) (.pf (cells.drop off)):=fun m γ m' hm x hr=>by
 simp only [Rep] at hr⊢
 obtain ⟨b,C,g1,rfl⟩:=hr
 obtain ⟨b',h1,h2⟩:=hm.box Tb cells hX
 rw [g1] at h1
 cases h1
 exact ⟨b,off,rfl,by have:=e8 h2 off;rwa [Nat.zero_add] at this⟩
end
inductive xV (o:Nat) (X:Ob):Ob->Ob->Prop
 |same (Y:Ob):xV o X Y Y
 |box {T:TypeId} {cs cs' :List AV} (h:jH o X cs cs'):xV o X (.box T cs) (.box T cs')
 |any (Y:Ob):xV o X Y .dead
theorem kG {m:Mem} {γ:Gam} {ob ob2:List Ob} {w:World} (hi:Inv m γ ob w) (hl:ob2.length=ob.length) (h: ∀(i:Nat) (Y:Ob),ob2[i]? =some Y->Y= .dead\/(live ob i/\gI m γ w i Y)):Inv m γ ob2 w:=by
 have hlv: ∀q,live ob2 q->live ob q:=by
  rintro q ⟨Y,hY,hne⟩
  grind
 refine ⟨hi.mem,fun q Y hY=> ?_,fun q q' b C C' l1 l2=>hi.sep q q' b C C' (hlv q l1) (hlv q' l2),hi.dom,fun q hq=>by rw [hl];exact hi.len q hq⟩
 rcases h q Y hY with rfl|h1
 ·trivial
 ·exact h1.2
section
variable {P:Program} {f:FuncId} {args:List AV} {ob ob1 ob2:List Ob} {kk:List Nat} {r r' :AV}
theorem HM (h:bg P f args ob kk r ob1) {o:Nat} {X:Ob} (ho:ob1[o]? =some X) (hX:(∃T S rows,X= .row T S rows)\/ ∃Tb cells,X= .box Tb cells) (hr:Frz o X r r') (hl:ob2.length=ob1.length)
  (hob: ∀i Y Y',ob1[i]? =some Y->ob2[i]? =some Y' ->Y' = .dead\/(i≠o/\xV o X Y Y')):bg P f args ob kk r' ob2:=by
 refine ⟨h.1,fun m γ w vs hi hv=>(h.2 m γ w vs hi hv).mono ?_⟩
 rintro e w' ⟨m',γ',r0,o0,⟨rfl,rfl⟩,h2,h3,h4,h5⟩
 obtain ⟨m2,hm,hi2,ht⟩:=gX h4 ho hX
 have e1:mg m2 γ' e (.ret r'):=by
  cases e with
  |returned v=>exact hr _ _ _ hm v h2
  |panicked c=>exact h2.elim
  |outgrown=>exact h2.elim
 refine ⟨m2,γ',_,ob2,⟨rfl,rfl⟩,e1,h3.trans ht,kG hi2 (by rw [hl,List.length_set]) fun i Y' hY' => ?_,h5⟩
 have hlt:=(List.getElem?_eq_some_iff.1 hY').1
 obtain ⟨Y,hY⟩: ∃Y,o0[i]? =some Y:=⟨_,List.getElem?_eq_getElem oab⟩
 by_cases hd:Y' = .dead
 ·exact .inl hd
 rcases hob i Y Y' hY hY' with h6|⟨hne,h6⟩
 ·exact .inl h6
 ·have hset:(o0.set o Ob.dead)[i]? =some Y:=by rw [List.getElem?_set_ne (Ne.symm hne)];exact hY
  cases h6 with
  |same=>exact .inr ⟨⟨_,hset,hd⟩,hi2.obj i _ hset⟩
  |any=>exact .inl rfl
  |box hcs=>
   refine .inr ⟨⟨_,hset,by simp⟩,?_⟩
   obtain ⟨b,cs,g1,g2,g3,g4⟩:=hi2.obj i _ hset
   obtain ⟨b',cs',g1',g2',g3',_⟩:=h4.obj i _ hY
   rw [g1] at g1'
   cases g1'
   rw [g2] at g2'
   cases g2'
   exact ⟨b,cs,g1,g2,hcs _ _ _ hm _ g3',g4⟩
theorem PR (h:bg P f args [] [] r ob1) (hr:r.und 0=true):bg P f args [] [] r []:=
 kz (h.mono fun e o hh=>⟨hh.1,ob1,by rw [hh.2];rfl⟩) (Nat.le_refl _) hr rfl
theorem PS {ob:List Ob} {o:Nat} {X:Ob}: ∀i Y Y',ob[i]? =some Y->(ob.map fun _=>Ob.dead)[i]? =some Y' ->Y' = .dead\/(i≠o/\xV o X Y Y'):=by
 simp_all
theorem lC {T S n o:Nat} {rows:List (List AV)} (h:bg P f args [] [] (.sr o S 0 n) ob1) (ho:ob1[o]? =some (.row T S rows)) (hn:n=rows.length) (hp:aj rows=true):bg P f args [] [] (.sl S rows) []:=
 PR (HM h ho (.inl ⟨_,_,_,rfl⟩) (Frz.sr0 rfl hn) (List.length_map ..) PS) (by simp [AV.und,eS 0 rows hp])
end
def PT:List Code->Code->Code
 |[],r=>r
 |h::hs,r=> .seq h (PT hs r)
section
variable {P:Program} {n:Nat} {callf:cI} {pu:FuncId->Bool} {lf:Nat}
noncomputable def HN (P:Program) (n:Nat) (callf:cI) (pu:FuncId->Bool) (lf:Nat):List Code->Tri AV->Tri Ob->Nat->TM->RX
 |[],M,O,N,tm=> .ok .normal M O N tm
 |h::hs,M,O,N,tm=>qz (HN P n callf pu lf hs) (eu P n callf pu lf h M O N tm)
theorem Mb (hcf:ct P callf) (hm:P.follows .mixedOrders=true): ∀(hs:List Code) {M M' :Tri AV} {O O' :Tri Ob} {N N' :Nat} {tm tm' :TM},HN P n callf pu lf hs M O N tm= .ok .normal M' O' N' tm' ->
  Ext tm tm' /\(cx tm'.ok=true-> ∀L ob,cw M L->bV O N ob-> ∀(K:Nat) (Q:dI) (rest:Code),(∀L' ob',cw M' L' ->bV O' N' ob' ->awp none P n K [] rest Q L' ob')->awp none P n K [] (PT hs rest) Q L ob)
 |[],M,M',O,O',N,N',tm,tm',h=>by
  cases h
  exact ⟨Ext.refl _,fun _ L ob hM hO K Q rest hq=>hq L ob hM hO⟩
 |c::hs,M,M',O,O',N,N',tm,tm',h=>by
  replace h:qz (HN P n callf pu lf hs) (eu P n callf pu lf c M O N tm)= .ok .normal M' O' N' tm' :=h
  cases hc:eu P n callf pu lf c M O N tm with
  |fail=>rw [hc] at h;cases h
  |ok x M1 O1 N1 t1=>
   rw [hc] at h
   cases x with
   |normal=>
    obtain ⟨e1,k1⟩:=oN hcf hm lf c hc
    obtain ⟨e2,k2⟩:=Mb hcf hm hs (show HN P n callf pu lf hs M1 O1 N1 t1=_ from h)
    refine ⟨e1.trans e2,fun hok L ob hM hO K Q rest hq=> ?_⟩
    have h1:=k1 (e2.ok hok) ⟨L,ob,hM,hO⟩
    exact ia ((h1.2 L ob hM hO).2 none K _ (.inl rfl) fun L1 ob1 hM1 hO1=>k2 hok L1 ob1 hM1 hO1 K Q rest hq)
   |_=>simp [qz] at h
noncomputable def lastR (P:Program) (n:Nat) (callf:cI) (pu:FuncId->Bool) (lf id:Nat) (B:Code):RX->RX
 | .ok .normal _ _ _ _=> .fail
 |r=>qz (eu P n callf pu lf B) (oJ id r)
noncomputable def qD (P:Program) (rs:List ResultVar) (k:Nat):RX->Option (AV×List (Option Ob)×List Bool)
 | .ok .normal M O _ t=>match lA P M O rs with
  |some avs=>some (gO avs,(range k).map O.get,t.ok)
  |none=>none
 | .ok .ret M O _ t=>match lA P M O rs with
  |some avs=>some (gO avs,(range k).map O.get,t.ok)
  |none=>none
 |_=>none
theorem sF {k:Nat} {O:Tri Ob} {obs:List Ob} (hl:obs.length=k) (h:(range k).map O.get=obs.map some) {N:Nat} {ob:List Ob} (hO:bV O N ob): ∃xs,ob=obs++xs:=by
 have hp: ∀i,i<k->ob[i]? =obs[i]? :=fun i hi=>by
  have h3:((range k).map O.get)[i]? =some (O.get i):=by simp [hi]
  rw [h,List.getElem?_map] at h3
  cases ho:obs[i]? with
  |none=>rw [ho] at h3;cases h3
  |some X=>rw [ho] at h3;simp at h3;rw [<-hO.2];exact h3.symm
 refine ⟨ob.drop k,?_⟩
 conv=>lhs;rw [<-List.take_append_drop k ob]
 congr 1
 apply List.ext_getElem?
 grind
theorem Vd {df:Option Nat} {K:Nat} {c:Code} {Q:dI} {L L' :Loc} {ob ob2:List Ob} {o:Nat} {X:Ob} (ho:ob[o]? =some X) (hX:(∃T S rows,X= .row T S rows)\/ ∃Tb cells,X= .box Tb cells) (hl:ob2.length=ob.length)
  (hob: ∀i Y Y',ob[i]? =some Y->ob2[i]? =some Y' ->Y' = .dead\/(i≠o/\xV o X Y Y')) (hL: ∀t av',lk L' t=some av' -> ∃av,lk L t=some av/\Frz o X av av') (h:awp df P n K [] c Q L' ob2):awp df P n K [] c Q L ob:=by
 intro m γ w a hi hlc hs hd
 obtain ⟨m2,hm,hi2,ht⟩:=gX hi ho hX
 have hinv:Inv m2 γ ob2 w:=kG hi2 (by rw [hl,List.length_set]) fun i Y' hY' =>by
  have hlt:=(List.getElem?_eq_some_iff.1 hY').1
  obtain ⟨Y,hY⟩: ∃Y,ob[i]? =some Y:=⟨_,List.getElem?_eq_getElem oab⟩
  by_cases hd:Y' = .dead
  ·exact .inl hd
  rcases hob i Y Y' hY hY' with h6|⟨hne,h6⟩
  ·exact .inl h6
  ·have hset:(ob.set o Ob.dead)[i]? =some Y:=by rw [List.getElem?_set_ne (Ne.symm hne)];exact hY
   cases h6 with
   |same=>exact .inr ⟨⟨_,hset,hd⟩,hi2.obj i _ hset⟩
   |any=>exact .inl rfl
   |box hcs=>
    refine .inr ⟨⟨_,hset,by simp⟩,?_⟩
    obtain ⟨b,cs,g1,g2,g3,g4⟩:=hi2.obj i _ hset
    obtain ⟨b',cs',g1',g2',g3',_⟩:=hi.obj i _ hY
    rw [g1] at g1'
    cases g1'
    rw [g2] at g2'
    cases g2'
    exact ⟨b,cs,g1,g2,hcs _ _ _ hm _ g3',g4⟩
 have hrl:b9 m2 γ a L' :=fun t av' e=>by
  obtain ⟨av,h1,h2⟩:=hL t av' e
  exact ⟨(hlc t av h1).1,h2 _ _ _ hm _ (hlc t av h1).2⟩
 refine wpIn_mono (h m2 γ w a hinv hrl hs hd) ?_
 rintro e a1 w1 ⟨m1,γ1,L1,ob1,ax,h1,h2,h3,h4,h5,h6,h7,h8⟩
 exact ⟨m1,γ1,L1,ob1,ax,h1,h2,ht.trans h3,h4,h5,h6,h7,h8⟩
end
section
variable {P:Program} {f:FuncId} {Tb:TypeId} {cs ds rest:List AV} {r:AV}
theorem CV {m m' :Mem} {γ γ' :Gam}: ∀{cs:List AV} {xs:List Value},(∀c∈cs,∃x,c= .v x)->aB m γ cs xs->aB m' γ' cs xs
 |[],xs,_,h=>by simpa only [aB] using h
 |c::cs,xs,hv,h=>by
  simp only [aB] at h⊢
  obtain ⟨x,r,rfl,h1,h2⟩:=h
  obtain ⟨y,rfl⟩:=hv c oai
  exact ⟨x,r,rfl,by simpa only [Rep] using h1,CV (fun c hc=>hv c (List.mem_cons_of_mem _ hc)) h2⟩
end
inductive Told:Ob->Ob->Prop
 |same (X:Ob):Told X X
 |dead (X:Ob):Told X .dead
 |row {T S k:Nat} {rows:List (List AV)} (h:k<=rows.length):Told (.row T S rows) (.row T S (rows.take k))
theorem ND {m:Mem} {γ:Gam} {w:World} {o:Nat} {X Y:Ob} (h:Told X Y) (hx:gI m γ w o X):gI m γ w o Y:=by
 cases h with
 |same=>exact hx
 |dead=>trivial
 |row hk=>
  rename_i T S k rows
  rcases hx with ⟨g1,g2⟩|⟨b,C,cs,g1,g2,g3,g4,g5,g6,g7,g8⟩
  ·exact .inl ⟨g1,by rw [g2];simp⟩
  ·have hl:(rows.take k).length=k:=by simp;omega
   refine .inr ⟨b,C,cs,g1,g2,g3,by omega,g5,fun r hr=>g6 r (List.mem_of_mem_take hr),?_,g8⟩
   have:=dB g7 (k*S)
   grind [nu,Nat.mul_le_mul_right]
theorem CW {X Y:Ob} (h:Told X Y) (hy:Y≠ .dead):X≠ .dead:=by
 cases h with
 |same=>exact hy
 |dead=>exact absurd rfl hy
 |row=>simp
structure Mc (K:Nat) (L' :Loc) (ob' :List Ob) (L:Loc) (ob:List Ob) (sel:List Nat):Prop where
 nodup:sel.Nodup
 len:sel.length=ob.length
 obs: ∀(i s:Nat) (X:Ob),sel[i]? =some s->ob[i]? =some X-> ∃Y,ob'[s]? =some Y/\Told Y (X.ren (b0 sel ob'.length))
 same: ∀i,i<K->sel[i]? =some i
 Ma: ∀t av,lk L t=some av->lk L' t=some (av.ren (b0 sel ob'.length))
theorem HO {m:Mem} {γ:Gam} {w:World} {ob obc:List Ob} (hi:Inv m γ ob w) {sel:List Nat} (hn:sel.Nodup) (hl:sel.length=obc.length) (hsel: ∀(i s:Nat) (X:Ob),sel[i]? =some s->obc[i]? =some X-> ∃Y,ob[s]? =some Y/\Told Y (X.ren (b0 sel ob.length))):
  Inv m (fun k=>γ (b0 sel ob.length k)) obc w:=by
 have key: ∀(i:Nat) (X:Ob),obc[i]? =some X-> ∃s:Nat,sel[i]? =some s/\ ∃Y,ob[s]? =some Y/\Told Y (X.ren (b0 sel ob.length)):=by
  intro i X hX
  have hi' :i<sel.length:=by grind
  have h1:sel[i]? =some sel[i]:=List.getElem?_eq_getElem hi'
  exact ⟨_,h1,hsel i _ X h1 hX⟩
 refine ⟨hi.mem,fun o X hX=> ?_,fun o o' b C C' h1 h2 h3 h4=> ?_,fun o b C h=>hi.dom _ b C h,fun o h=> ?_⟩
 ·obtain ⟨s,g1,Y,g2,g3⟩:=key o X hX
  refine mn.2 ?_
  rw [ek g1]
  exact ND g3 (hi.obj s _ g2)
 ·obtain ⟨X,hX,hXd⟩:=h1
  obtain ⟨Z,hZ,hZd⟩:=h2
  obtain ⟨s,g1,Y,g2,g3⟩:=key o X hX
  obtain ⟨t,k1,V,k2,k3⟩:=key o' Z hZ
  rw [ek g1] at h3
  rw [ek k1] at h4
  have dd: ∀{Z:Ob},Z≠ .dead->Z.ren (b0 sel ob.length)≠ .dead:=by intro Z hZ;cases Z<;>simp_all [Ob.ren]
  have e:=hi.sep s t b C C' ⟨_,g2,CW g3 (dd hXd)⟩ ⟨_,k2,CW k3 (dd hZd)⟩ h3 h4
  grind [List.pairwise_iff_getElem]
 ·by_cases h1:o<sel.length
  ·omega
  ·have h2:=hi.len _ h
   grind [jK]
section
variable {df:Option Nat} {P:Program} {n K:Nat}
theorem sG {c:Code} {Q:dI} {L0:Loc} {ob0:List Ob} (h:awp df P n K [] c (fun x L' ob' => ∃L ob sel,Mc K L' ob' L ob sel/\eT x=true/\Q x L ob) L0 ob0):awp df P n K [] c Q L0 ob0:=by
 intro m γ w a hi hl hs hd
 refine wpIn_mono (h m γ w a hi hl hs hd) ?_
 rintro e a1 w1 ⟨m1,γ1,L1,ob1,ax,⟨L,ob,sel,hv,hp,hq⟩,h2,h3,h4,h5,h6,h7,h8⟩
 refine ⟨m1,fun k=>γ1 (b0 sel ob1.length k),L,ob,ax,hq,?_,⟨h3.mem,h3.new,fun k hk ⟨o,C,ho⟩=>h3.gam k hk ⟨_,C,ho⟩,h3.os,h3.tape,h3.output,h3.size,h3.blk⟩,HO h4 hv.nodup hv.len hv.obs,?_,h6,h7.gam (fun k ⟨o,C,ho⟩=>⟨_,C,ho⟩),fun o g ho hg=> ?_⟩
 ·cases ax with
  |panic av=>cases hp
  |_=>cases e<;>first|exact h2.elim|exact h2
 ·intro t av e1
  obtain ⟨q1,q2⟩:=h5 t _ (hv.Ma t av e1)
  exact ⟨q1,(dM av _).2 q2⟩
 ·show γ1 (b0 sel ob1.length o)=some g
  rw [ek (hv.same o ho.1)]
  exact h8 o g ho hg
def n9 (f:Nat->Nat):List (Option Ob)->List Ob->Prop
 |[],[]=>True
 |some Y::SO,X::obs=>Told Y (X.ren f)/\n9 f SO obs
 |_,_=>False
theorem sH {f:Nat->Nat}: ∀{SO:List (Option Ob)} {obs:List Ob},n9 f SO obs->SO.length=obs.length/\ ∀(i:Nat) (X:Ob),obs[i]? =some X-> ∃Y,SO[i]? =some (some Y)/\Told Y (X.ren f)
 |[],[],_=>⟨rfl,fun i X h=>by simp at h⟩
 |some Y::SO,X::obs,h=>by
  obtain ⟨k1,k2⟩:=sH h.2
  refine ⟨by simp [k1],fun i Z hZ=> ?_⟩
  cases i with
  |zero=>simp at hZ;subst hZ;exact ⟨Y,rfl,h.1⟩
  |succ i=>simpa using k2 i Z (by simpa using hZ)
 |none::_,_::_,h=>h.elim
 |none::_,[],h=>h.elim
 |some _::_,[],h=>h.elim
 |[],_::_,h=>h.elim
theorem NF {f:FuncId} {argsC:List AV} {obc obc' :List Ob} {r:AV} (h:bg P f argsC obc [] r obc') {sel:List Nat} {ob:List Ob} (hn:sel.Nodup) (hsel:LS ob (b0 sel ob.length) sel obc) (hlen:sel.length<=obc'.length):
  bg P f (b6 (b0 sel ob.length) argsC) ob [] (r.ren (b0 sel ob.length)) (back ob sel [] obc'):=by
 obtain ⟨hl,hget⟩:=sz hsel
 refine ⟨h.1,fun m γ w vs hi hv=>(h.2 m _ w vs (nv hi hn hl hget) ((cn _ _).2 hv)).mono ?_⟩
 rintro e w' ⟨m',γc,r',o',⟨rfl,rfl⟩,h2,h3,h4,h5⟩
 obtain ⟨γ',g1,g2,g3,g4⟩:=ky hi (kk:=[]) hn hl hget hlen oai h3 h4 h5
 refine ⟨m',γ',_,_,⟨rfl,rfl⟩,?_,g2,g4,fun o g hk hg=>g3.gam o g hg hk⟩
 cases e with
 |returned v=>
  have h2' :Rep m' γc r v:=h2
  rw [<-show (fun k=>γ' (b0 sel ob.length k))=γc from funext g1] at h2'
  exact (dM _ _).1 h2'
 |panicked c=>exact h2.elim
 |outgrown=>exact h2.elim
end
section
variable {P:Program}
variable {n:Nat} {callf:cI} {pu:FuncId->Bool} {lf:Nat}
end
section
variable {P:Program} {n K:Nat} {callf:cI} {pu:FuncId->Bool} {lf:Nat}
theorem CX {f:Nat->Nat} {Z:List (Option Ob)} {Z' :List Ob} (hz:n9 f Z Z'): ∀{A A' :List Ob},A'.map (Ob.ren f)=A->n9 f (A.map some++Z) (A' ++Z')
 |[],[],_=>hz
 |a::A,a' ::A',h=>by
  simp only [List.map_cons,List.cons.injEq] at h
  obtain ⟨h1,h2⟩:=h
  exact ⟨h1▸ .same _,CX hz h2⟩
 |[],_::_,h=>by cases h
 |_::_,[],h=>by cases h
theorem NG {f:Nat->Nat} {A A' :List Ob} (h:A'.map (Ob.ren f)=A):n9 f (A.map some) A' :=by
 have:=CX (f:=f) (Z:=[]) (Z' :=[]) trivial h
 simpa using this
def xW (P:Program) (n K:Nat) (L:Loc) (ob:List Ob) (L' :Loc) (ob' :List Ob):Prop:= ∀(df:Option Nat) (c:Code) (Q:dI),awp df P n K [] c Q L' ob' ->awp df P n K [] c Q L ob
theorem xW.trans {L L1 L2:Loc} {ob ob1 ob2:List Ob} (h:xW P n K L ob L1 ob1) (k:xW P n K L1 ob1 L2 ob2):xW P n K L ob L2 ob2:=fun df c Q q=>h df c Q (k df c Q q)
theorem xX {c:Code} {L L1 L2:Loc} {ob ob1 ob2:List Ob} {x:AX} (h:xW P n K L ob L1 ob1) (k:Piece P n K c L1 ob1 x L2 ob2):Piece P n K c L ob x L2 ob2:=fun df Q hd hq=>h df c Q (k df Q hd hq)
theorem NH {L' L:Loc} {ob' ob:List Ob} {sel:List Nat} (hv:Mc K L' ob' L ob sel):xW P n K L' ob' L ob:=by
 intro df c Q h m γ w a hi hl hs hd
 have hi2:=HO hi hv.nodup hv.len hv.obs
 have hl2:b9 m (fun k=>γ (b0 sel ob'.length k)) a L:=fun t av e=>by
  obtain ⟨q1,q2⟩:=hl t _ (hv.Ma t av e)
  exact ⟨q1,(dM av _).2 q2⟩
 refine wpIn_mono (h m _ w a hi2 hl2 hs hd) ?_
 rintro e a1 w1 ⟨m1,γ1,L1,ob1,ax,h1,h2,h3,h4,h5,h6,h7,h8⟩
 refine ⟨m1,γ1,L1,ob1,ax,h1,h2,⟨h3.mem,fun a x hx=> ?_,fun k hk hg=> ?_,h3.os,h3.tape,h3.output,h3.size,fun k hk hn=>h3.blk k hk fun ⟨o,C,ho⟩=>hn ⟨_,C,ho⟩⟩,h4,h5,h6,h7,fun o g ho hg=>h8 o g ho (by
  show γ (b0 sel ob'.length o)=some g
  rw [ek (hv.same o ho.1)];exact hg)⟩
 ·rcases h3.new a x hx with h|h|⟨o,C,ho⟩
  ·exact .inl h
  ·exact .inr (.inl h)
  ·exact .inr (.inr ⟨_,C,ho⟩)
 ·obtain ⟨o,C,ho⟩:=h3.gam k hk hg
  exact ⟨_,C,ho⟩
theorem PU {L L' :Loc} {ob ob2:List Ob} {o:Nat} {X:Ob} (ho:ob[o]? =some X) (hX:(∃T S rows,X= .row T S rows)\/ ∃Tb cells,X= .box Tb cells) (hl:ob2.length=ob.length)
  (hob: ∀i Y Y',ob[i]? =some Y->ob2[i]? =some Y' ->Y' = .dead\/(i≠o/\xV o X Y Y')) (hL: ∀t av',lk L' t=some av' -> ∃av,lk L t=some av/\Frz o X av av'):xW P n K L ob L' ob2:=fun _ _ _ h=>Vd ho hX hl hob hL h
def Fin (P:Program) (fn:Func) (K:Nat) (R:qd->List Ob->Prop) (c:Code) (L:Loc) (ob:List Ob):Prop:=awp none P fn.ntmps K [] c (LO P fn R) L ob
variable {fn:Func} {R:qd->List Ob->Prop}
theorem NI {a b:Code} {L L1:Loc} {ob ob1:List Ob} (h:Piece P fn.ntmps K a L ob .normal L1 ob1) (k:Fin P fn K R b L1 ob1):Fin P fn K R (.seq a b) L ob:=ia (h none _ (.inl rfl) k)
theorem PV {c:Code} {L L1:Loc} {ob ob1:List Ob} (h:xW P fn.ntmps K L ob L1 ob1) (k:Fin P fn K R c L1 ob1):Fin P fn K R c L ob:=h none c _ k
theorem CY {df:Option Nat} {ι:Type} {c:Code} {Q:dI} (hd:jG df c) (L:ι->Loc) (B:ι->List Ob) (I:ι->Prop) (μ:ι->Nat)
  (round: ∀x,I x->(∃y,I y/\μ y<μ x/\Piece P n K c (L x) (B x) .normal (L y) (B y))\/awp df P n K [] c (G9 (fun _ _=>False) Q) (L x) (B x)) (x:ι) (hx:I x):awp df P n K [] (.loop c) Q (L x) (B x):=by
 refine mf L B I μ x hx (Sub.refl _) rfl fun y hy=> ?_
 rcases round y hy with ⟨z,h1,h2,h3⟩|h
 ·exact h3 df _ hd ⟨z,h1,h2,Sub.refl _,rfl⟩
 ·refine wQ h fun ax L' ob' q=> ?_
  cases ax with
  |normal=>exact q.elim
  |_=>exact q
theorem xY {id:Nat} {c:Code} {ι:Type} {L' :Loc} {ob' :List Ob} (L:ι->Loc) (Bs:ι->List Ob) (I:ι->Prop) (μ:ι->Nat) (x:ι) (hx:I x)
  (round: ∀x,I x->(∃y,I y/\μ y<μ x/\Piece P n K c (L x) (Bs x) .normal (L y) (Bs y))\/Piece P n K c (L x) (Bs x) (.exit id) L' ob'):Piece P n K (.block id (.loop c)) (L x) (Bs x) .normal L' ob' :=by
 intro df Q hd hq
 have hd' :jG df c:=hd.imp (fun e=>e) fun e=>by simpa only [Code.inR] using e
 exact dJ (CY hd' L Bs I μ (fun y hy=>(round y hy).imp (fun e=>e) fun k=>k df _ hd' (Hj (Q:=Q) hq)) x hx)
theorem mz {id:Nat} {c:Code} {L L' :Loc} {ob ob' :List Ob} (h:Piece P n K c L ob .normal L' ob'):Piece P n K (.block id c) L ob .normal L' ob' :=fun df _ hd hq=>dJ (h df _ (hd.imp (fun e=>e) fun e=>by simpa only [Code.inR] using e) hq)
theorem EO {id:Nat} {c:Code} {L L' :Loc} {ob ob' :List Ob} (h:Piece P n K c L ob (.exit id) L' ob'):Piece P n K (.block id c) L ob .normal L' ob' :=fun df Q hd hq=>dJ (h df _ (hd.imp (fun e=>e) fun e=>by simpa only [Code.inR] using e) (Hj (Q:=Q) hq))
theorem lD {a b:Code} {L L' :Loc} {ob ob' :List Ob} {x:AX} (h:Piece P n K a L ob x L' ob') (hx:x≠ .normal):Piece P n K (.seq a b) L ob x L' ob' :=fun df Q hd hq=>ia (h df _ (hd.imp (fun e=>e) fun e=>by simp only [Code.inR,Bool.and_eq_true] at e;exact e.1) (by
 cases x with
 |normal=>exact absurd rfl hx
 |_=>exact hq))
theorem HP {rest:Code} (hcf:ct P callf) (hm:P.follows .mixedOrders=true) {hs:List Code} {args:List AV} {ob:List Ob} (L' :Loc) (ob' :List Ob) {sel:List Nat} {gd:List Gi} {ok:List Bool} {N' lo:Nat} {SL:List (Option AV)} {SO:List (Option Ob)}
  (h:gJ (L'.map (·.1)) sel (HN P fn.ntmps callf pu lf hs (l8 0 args .e) (bw ob) ob.length ⟨lo,gd,[]⟩)=some (.normal,SL,SO,N',ok)) (hok:cx ok=true)
  (hn:lB sel=true) (hK:(range K).all (fun i=>sel[i]? ==some i)=true) (h2:l9 (b0 sel N') L' =SL) (h3:n9 (b0 sel N') SO ob') (k:Fin P fn K R rest L' ob'):Fin P fn K R (PT hs rest) (fo 0 args) ob:=by
 cases hr:HN P fn.ntmps callf pu lf hs (l8 0 args .e) (bw ob) ob.length ⟨lo,gd,[]⟩ with
 |fail=>rw [hr] at h;cases h
 |ok x1 M1 O1 N1 t1=>
  rw [hr] at h
  simp only [gJ,Option.some.injEq,Prod.mk.injEq] at h
  obtain ⟨rfl,q2,q3,rfl,rfl⟩:=h
  refine (Mb hcf hm hs hr).2 hok (fo 0 args) ob (fa args) (e7 ob) K _ _ fun L1 ob1 hM hO=> ?_
  have hl1:ob1.length=N1:=hO.1
  rw [<-q3] at h3
  obtain ⟨t1,t2⟩:=sH h3
  exact NH ⟨iz hn,by simpa using t1,fun i s X hi hX=>by
   obtain ⟨Y,k1,k2⟩:=t2 i X hX
   rw [List.getElem?_map,hi] at k1
   simp only [Option.map_some,Option.some.injEq] at k1
   exact ⟨Y,by rw [<-hO.2];exact k1,by rw [hl1];exact k2⟩,fun i hi=>by
   have:=List.all_eq_true.1 hK i (List.mem_range.2 hi)
   simpa using this,fun t av e=>by
   rw [<-hM t,hl1]
   exact kF (q2.trans h2.symm) t av e⟩ none _ _ k
theorem jo {f:FuncId} {c:Code} {args:List AV} {ob ob' :List Ob} {r:AV} (hf:P.funcs[f]? =some fn) (hname:(fn.name== "runtime.NumGoroutine")=false) (hb:fn.body=some c) (hn:args.length<=fn.ntmps)
  (hl:ob.length<=ob'.length) (hr:r.und ob'.length=true) (hbl:ob'.all (Ob.und ob'.length)=true)
  (h:Fin P fn ob.length (fun e o=>e= .ret r/\ ∃xs,o=ob' ++xs) c (fo 0 args) ob):bg P f args ob [] r ob' :=Hi hf hname hb hn hl hr hbl h
end
end Go.Am
namespace Go.Proofs
open Go.Shelf Go.RowKit
def Tryz.uq:Go.Shelf.Ren:=⟨fun|156=>41|165=>70|166=>42|169=>43|240=>71|241=>97|276=>98|277=>110|n=>n,fun|31=>22|9=>9|3=>3|4=>4|0=>0|20=>20|72=>80|76=>83|70=>77|37=>78|75=>82|127=>121|164=>140|5=>5|80=>85|n=>n,fun|n=>n⟩
theorem Tryz.Md:Go.Proofs.Lays.n156 Tryz.prog Tryz.uq:={
 mixed:=by kernel_rfl
 f156:=Tryz.func41.trans (congrArg some oaa)
 f165:=Tryz.func70.trans (congrArg some oaa)
 f166:=Tryz.func42.trans (congrArg some oaa)
 f169:=Tryz.func43.trans (congrArg some oaa)
 f240:=Tryz.func71.trans (congrArg some oaa)
 f241:=Tryz.func97.trans (congrArg some oaa)
 f276:=Tryz.func98.trans (congrArg some oaa)
 f277:=Tryz.func110.trans (congrArg some oaa)
 t0:=Tryz.underlying0
 a0:=Tryz.isAgg0
 z0:=Tryz.sizeOf0
 v0:=Tryz.zeroValue0
 t3:=Tryz.underlying3
 a3:=Tryz.isAgg3
 z3:=Tryz.sizeOf3
 v3:=Tryz.zeroValue3
 t4:=Tryz.underlying4
 a4:=Tryz.isAgg4
 z4:=Tryz.sizeOf4
 v4:=Tryz.zeroValue4
 t9:=Tryz.underlying9
 a9:=Tryz.isAgg9
 z9:=Tryz.sizeOf9
 v9:=Tryz.zeroValue9
 t20:=Tryz.underlying20
 a20:=Tryz.isAgg20
 z20:=Tryz.sizeOf20
 v20:=Tryz.zeroValue20
 t31:=Tryz.underlying22
 a31:=Tryz.isAgg22
 z31:=Tryz.sizeOf22
 v31:=Tryz.zeroValue22
 t37:=Tryz.underlying78
 a37:=Tryz.isAgg78
 z37:=Tryz.sizeOf78
 v37:=Tryz.zeroValue78
 t70:=Tryz.underlying77
 a70:=Tryz.isAgg77
 z70:=Tryz.sizeOf77
 v70:=Tryz.zeroValue77
 t72:=Tryz.underlying80
 a72:=Tryz.isAgg80
 z72:=Tryz.sizeOf80
 v72:=Tryz.zeroValue80
 t75:=Tryz.underlying82
 a75:=Tryz.isAgg82
 z75:=Tryz.sizeOf82
 v75:=Tryz.zeroValue82
 t76:=Tryz.underlying83
 a76:=Tryz.isAgg83
 z76:=Tryz.sizeOf83
 v76:=Tryz.zeroValue83
 t127:=Tryz.underlying121
 a127:=Tryz.isAgg121
 z127:=Tryz.sizeOf121
 v127:=Tryz.zeroValue121
 t164:=Tryz.underlying140
 a164:=Tryz.isAgg140
 z164:=Tryz.sizeOf140
 v164:=Tryz.zeroValue140}
theorem Tryz.jP:Builder.Extra Tryz.prog Tryz.uq:={
 sizeBuilder:=by kernel_rfl
 liesBuilder:=by kernel_rfl
 t5:=Tryz.underlying5
 a5:=Tryz.isAgg5
 z5:=Tryz.sizeOf5
 v5:=Tryz.zeroValue5
 infoByte:=by kernel_rfl
 cellsByte:=by kernel_rfl
 sizeByte:=by kernel_rfl
 neB5:=by decide}
theorem Tryz.strings_Join_none (a:Option Addr) (c:Nat) (sep:ByteArray) (w:World):
  Calls Tryz.prog 41 #[.slice a 0 c,.string sep] w fun e w' =>e= .returned (.string ⟨#[]⟩)/\w' =w:=Any.strings_Join_none Tryz.Md Tryz.jP a c sep w
theorem Tryz.strings_Join (bk o c:Nat) (xs:List ByteArray) (sep:ByteArray) (w:World) (hcells: ∀(j:Nat) x,xs[j]? =some x->w.cell? ⟨bk,o+j,none⟩=some (.string x)) (hbk:bk<w.heap.size) (hN:xs.length<=140737488355328) (hcap:xs.length<=c) (hlen:(Lib.join (xs.map (·.data.toList)) sep.data.toList).length<=140737488355328):
  Calls Tryz.prog 41 #[.slice (some ⟨bk,o,none⟩) xs.length c,.string sep] w fun e w' =>e= .returned (.string ⟨(Lib.join (xs.map (·.data.toList)) sep.data.toList).toArray⟩)/\Below w.heap.size w w' :=Any.strings_Join Tryz.Md Tryz.jP bk o c xs sep w hcells hbk hN hcap hlen
end Go.Proofs
namespace Go.Proofs.YtfkjfjalecikkaaGreatDoor
open Go.Am Go.RowKit
section
variable {m:Mem} {γ:Gam} {ob:List Ob} {w w' :World}
theorem NJ (hi:Inv m γ ob w) (h:Below w.heap.size w w'):Inv m γ ob w' /\Trans m γ w m γ w' :=by
 have hb: ∀k,k<w.heap.size->w'.heap[k]? =w.heap[k]? :=h.block
 refine ⟨⟨fun a x ha=> ?_,fun o X hX=>eK (hi.obj o X hX) (Le.refl _ _ _) (fun b C hg=>hb b (hi.dom o b C hg)) (fun _ _ _ _ h=>h),hi.sep,fun o b C hg=>Nat.lt_of_lt_of_le (hi.dom o b C hg) h.size,hi.len⟩,⟨fun _ _ h=>h,fun _ _ h=> .inl h,fun _ _ h=>h,h.os,h.tape,h.output,h.size,fun k hk _=>hb k hk⟩⟩
 have h1:=hi.mem a x ha
 grind [World.cell?]
def sI (xs:List ByteArray):List (List AV):=xs.map fun x=>[.v (.string x)]
def kH (xs:List ByteArray) (sep:ByteArray):ByteArray:=⟨(Lib.join (xs.map (·.data.toList)) sep.data.toList).toArray⟩
theorem NK (xs:List ByteArray):(sI xs).flatten=xs.map fun x=>AV.v (.string x):=by
 induction xs with
 |nil=>rfl
 |cons x r ih=>grind [sI]
theorem PW {xs:List ByteArray} {vs:List Value} (h:aB m γ (xs.map fun x=>AV.v (.string x)) vs):vs=xs.map Value.string:=by
 induction xs generalizing vs with
 |nil=>simpa [aB] using h
 |cons x r ih=>
  grind [aB,Rep]
theorem NL {xs:List ByteArray} {b off:Nat} (h:bN m γ 1 (sI xs) b off): ∀(j:Nat) x,xs[j]? =some x->m ⟨b,off+j,none⟩=some (.string x):=by
 induction xs generalizing off with
 |nil=>intro j x e;simp at e
 |cons y r ih=>
  grind [sI,bN,bJ,Rep]
theorem kI (hi:Inv m γ ob w) {e:Ending} {r:ByteArray} (he:e= .returned (.string r)/\Below w.heap.size w w'):
  ∃m' γ' r0 ob',(r0=qd.ret (.v (.string r))/\ob' =ob)/\mg m' γ' e r0/\Trans m γ w m' γ' w' /\Inv m' γ' ob' w' /\(∀o g,([]:List Nat).contains o=false->γ o=some g->γ' o=some g):=by
 obtain ⟨rfl,hb⟩:=he
 obtain ⟨h1,h2⟩:=NJ hi hb
 grind [mg,Rep]
theorem Me: ∃fn,Tryz.prog.funcs[41]? =some fn/\(fn.name== "runtime.NumGoroutine")=false/\fn.body.isNone=false:=⟨_,Tryz.func41,by kernel_rfl,by kernel_rfl⟩
theorem join_nil (sep:ByteArray):kH [] sep=⟨#[]⟩:=by simp [kH,Lib.join]
theorem Ve (xs:List ByteArray) (sep:ByteArray) (hl:(kH xs sep).data.size<=140737488355328) (hn:xs.length<=140737488355328):bg Tryz.prog 41 [.sl 1 (sI xs),.v (.string sep)] ob [] (.v (.string (kH xs sep))) ob:=by
 refine ⟨Me,fun m γ w vs hi hv=> ?_⟩
 simp only [aB,Rep] at hv
 obtain ⟨x,r,rfl,⟨a,len,cap,rfl,h1,h2,h3⟩,y,r2,rfl,rfl,rfl⟩:=hv
 rcases h3 with h3|⟨b,off,rfl,h3⟩
 ·have:xs=[]:=by simpa [sI] using h3
  subst this
  subst h1
  refine (Tryz.strings_Join_none a cap sep w).mono fun e w' ⟨he,hw⟩=> ?_
  subst hw
  exact kI hi ⟨by rw [he,join_nil],Below.refl _ _⟩
 ·have hlen:len=xs.length:=by rw [h1];simp [sI]
  subst hlen
  cases xs with
  |nil=>
   refine (Tryz.strings_Join_none _ cap sep w).mono fun e w' ⟨he,hw⟩=> ?_
   subst hw
   exact kI hi ⟨by rw [he,join_nil],Below.refl _ _⟩
  |cons x r=>
   have hc:=NL h3
   refine (Tryz.strings_Join b off cap (x::r) sep w (fun j x e=>hi.mem _ _ (hc j x e)) ?_ hn h2 (by simpa [kH] using hl)).mono fun e w' he=>kI hi he
   have:=World.block_lt_of_cell? w _ (hi.mem _ _ (hc 0 x rfl))
   simpa using this
theorem Vf (xs:List ByteArray) (sep:ByteArray) {o:Nat} {T:TypeId} (ho:ob[o]? =some (.row T 1 (sI xs))) (hl:(kH xs sep).data.size<=140737488355328) (hn:xs.length<=140737488355328):bg Tryz.prog 41 [.sr o 1 0 xs.length,.v (.string sep)] ob [] (.v (.string (kH xs sep))) ob:=by
 refine ⟨Me,fun m γ w vs hi hv=> ?_⟩
 simp only [aB,Rep] at hv
 obtain ⟨x,r,rfl,h1,y,r2,rfl,rfl,rfl⟩:=hv
 rcases h1 with ⟨h1,⟨a,rfl⟩,_,h2⟩|⟨b,C,cap,h1,h2,h3,h4,rfl|⟨_,h5,_⟩⟩
 ·have:xs=[]:=List.length_eq_zero_iff.1 h2
  subst this
  refine (Tryz.strings_Join_none a 0 sep w).mono fun e w' ⟨he,hw⟩=> ?_
  subst hw
  exact kI hi ⟨by rw [he,join_nil],Below.refl _ _⟩
 ·rcases hi.obj o _ ho with ⟨g1,_⟩|⟨b',C',cs,g1,g2,g3,g4,g5,g6,g7,g8⟩
  ·rw [h1] at g1;cases g1
  ·rw [h1] at g1
   cases g1
   rw [NK] at g7
   have g9:=PW g7
   refine (Tryz.strings_Join b (0*1) cap xs sep w (fun j x e=> ?_) (hi.dom o b C h1) hn h3 (by simpa [kH] using hl)).mono fun e w' he=>kI hi he
   rw [Nat.zero_mul,Nat.zero_add,g2.cell]
   have hj:j<xs.length:=(List.getElem?_eq_some_iff.1 e).1
   have h6:(cs.toList.take ((sI xs).length*1))[j]? =some (.string x):=by rw [g9,List.getElem?_map,e];rfl
   rw [List.getElem?_take] at h6
   split at h6
   ·simpa using h6
   ·cases h6
 ·exact absurd rfl h5
def strOf:List (List AV)->Option (List ByteArray)
 |[]=>some []
 |[.v (.string x)]::r=>match strOf r with
  |some l=>some (x::l)
  |none=>none
 |_=>none
theorem xZ: ∀{rows:List (List AV)} {xs:List ByteArray},strOf rows=some xs->rows=sI xs
 |[],xs,h=>by cases h;rfl
 |c::rows,xs,h=>by
  unfold strOf at h
  split at h
  ·rename_i heq;cases heq
  ·rename_i x r heq
   cases heq
   split at h
   ·rename_i l hl
    cases h
    rw [xZ hl];rfl
   ·cases h
  ·cases h
noncomputable def HQ (rows:List (List AV)) (sep:ByteArray) (O:Tri Ob) (N:Nat) (tm:TM):CR:=match strOf rows with
 |some xs=>cond (Nat.ble (kH xs sep).data.size 140737488355328&&Nat.ble xs.length 140737488355328) (.ret (.v (.string (kH xs sep))) O N (tm.at N)) .fail
 |none=> .fail
noncomputable def WR (args:List AV) (O:Tri Ob) (N:Nat) (tm:TM):CR:=match args with
 |[.sl S rows,.v (.string sep)]=>cond (Nat.beq S 1) (HQ rows sep O N tm) .fail
 |[.sr o S lo n,.v (.string sep)]=>match O.get o with
  |some (.row _ S2 rows)=>cond (Nat.beq S 1&&Nat.beq lo 0&&Nat.beq n rows.length&&Nat.beq S2 1) (HQ rows sep O N tm) .fail
  |_=> .fail
 |_=> .fail
noncomputable def JO (callf:cI):cI:=fun f args O N tm=>cond (Nat.beq f 41) (WR args O N tm) (callf f args O N tm)
theorem HR {rows:List (List AV)} {sep:ByteArray} {args:List AV} {O:Tri Ob} {N:Nat} {tm:TM} (h: ∀xs,rows=sI xs->(kH xs sep).data.size<=140737488355328->xs.length<=140737488355328-> ∀ob,bV O N ob->bg Tryz.prog 41 args ob [] (.v (.string (kH xs sep))) ob):
  (∀r O1 N1 t1,HQ rows sep O N tm= .ret r O1 N1 t1->Ext tm t1/\(cx t1.ok=true-> ∀ob,bV O N ob-> ∃ob1,bV O1 N1 ob1/\qB Tryz.prog 41 args ob r ob1/\ ∀i,tb t1.lo i=false->O1.get i=O.get i))/\
  (∀av O1 N1 t1,HQ rows sep O N tm= .pan av O1 N1 t1->41<dQ/\Ext tm t1/\(cx t1.ok=true-> ∀ob,bV O N ob-> ∃ob1,bV O1 N1 ob1/\Ny Tryz.prog 41 args ob av ob1/\ ∀i,tb t1.lo i=false->O1.get i=O.get i)):=by
 unfold HQ
 split
 ·rename_i xs hxs
  cases hc:(Nat.ble (kH xs sep).data.size 140737488355328&&Nat.ble xs.length 140737488355328) with
  |false=>exact dy _ _ args O N tm
  |true=>
   simp only [Bool.and_eq_true] at hc
   refine ⟨fun r' O1 N1 t1 e=> ?_,fun av O1 N1 t1 e=>by cases e⟩
   cases e
   exact ⟨⟨[],rfl⟩,fun hok ob hO=>⟨ob,hO,nD oan (by grind [xZ,Nat.le_of_ble_eq_true]),fun i hi=>rfl⟩⟩
 ·exact dy _ _ args O N tm
theorem NM {callf:cI} (hcf:ct Tryz.prog callf):ct Tryz.prog (JO callf):=fun f args O N tm=>by
 unfold JO
 cases hf:Nat.beq f 41 with
 |false=>exact hcf f args O N tm
 |true=>
  have:=Nat.eq_of_beq_eq_true hf
  subst this
  simp only [cond_true]
  unfold WR
  split
  ·rename_i S rows sep
   cases hS:Nat.beq S 1 with
   |false=>exact dy _ _ _ O N tm
   |true=>
    have:=Nat.eq_of_beq_eq_true hS
    subst this
    exact HR (by grind [Ve])
  ·rename_i o S lo n sep
   split
   ·rename_i T S' rows ho
    cases hS:(Nat.beq S 1&&Nat.beq lo 0&&Nat.beq n rows.length&&Nat.beq S' 1) with
    |false=>exact dy _ _ _ O N tm
    |true=>
     simp only [Bool.and_eq_true] at hS
     obtain ⟨⟨⟨k1,k2⟩,k3⟩,k4⟩:=hS
     have e1:=Nat.eq_of_beq_eq_true k1
     have e2:=Nat.eq_of_beq_eq_true k2
     have e3:=Nat.eq_of_beq_eq_true k3
     have e4:=Nat.eq_of_beq_eq_true k4
     subst e1;subst e2;subst e3;subst e4
     exact HR fun xs e h1 h2 ob hO=>by
      subst e
      have ho' :ob[o]? =some (.row T 1 (sI xs)):=by rw [<-hO.2];exact ho
      simp_all [sI,Vf]
   ·exact dy _ _ _ O N tm
  ·exact dy _ _ _ O N tm
theorem mixed:Tryz.prog.follows .mixedOrders=true:=by kernel_rfl
noncomputable def runJ (lf k:Nat):cI:=
 Nat.rec (motive:=fun _=>cI) (fun _ _ _ _ _=> .fail) (fun _ callf=>JO (JM Tryz.prog (fun _=>false) lf callf)) k
theorem Mf (lf:Nat): ∀k,ct Tryz.prog (runJ lf k)
 |0=>fun f args O N tm=>dy _ f args O N tm
 |k+1=>NM (CU (Mf lf k) mixed _ lf)
end
end Go.Proofs.YtfkjfjalecikkaaGreatDoor
namespace Go.Am
section
variable {f:Nat->Nat} {N:Nat}
mutual
theorem nE (hf: ∀i,i<N->f i=i): ∀av:AV,av.und N=true->av.ren f=av
 | .any,_=>by simp [AV.ren]
 | .v _,_=>by simp [AV.ren]
 | .sl _ rows,h=>by simp only [AV.und] at h;simp [AV.ren,gb hf rows h]
 | .ag cs,h=>by simp only [AV.und] at h;simp [AV.ren,dR hf cs h]
 | .tu cs,h=>by simp only [AV.und] at h;simp [AV.ren,dR hf cs h]
 | .pt o _,h=>by simp_all [AV.und,AV.ren]
 | .pf cs,h=>by simp only [AV.und] at h;simp [AV.ren,dR hf cs h]
 | .sr o _ _ _,h=>by simp_all [AV.und,AV.ren]
 | .fn _ fs cs,h=>by simp only [AV.und,Bool.and_eq_true] at h;simp [AV.ren,dR hf fs h.1,dR hf cs h.2]
 | .ifc _ y,h=>by simp only [AV.und] at h;simp [AV.ren,nE hf y h]
 | .mp o,h=>by simp_all [AV.und,AV.ren]
 | .yl o,h=>by simp_all [AV.und,AV.ren]
 | .cl _ rows,h=>by simp only [AV.und] at h;simp [AV.ren,gb hf rows h]
theorem dR (hf: ∀i,i<N->f i=i): ∀cs:List AV,cy N cs=true->b6 f cs=cs
 |[],_=>by simp [b6]
 |c::cs,h=>by simp only [cy,Bool.and_eq_true] at h;simp [b6,nE hf c h.1,dR hf cs h.2]
theorem gb (hf: ∀i,i<N->f i=i): ∀rows:List (List AV),cZ N rows=true->dc f rows=rows
 |[],_=>by simp [dc]
 |r::rs,h=>by simp only [cZ,Bool.and_eq_true] at h;simp [dc,dR hf r h.1,gb hf rs h.2]
end
theorem sJ (hf: ∀i,i<N->f i=i): ∀X:Ob,X.und N=true->X.ren f=X
 | .dead,_=>rfl
 | .box _ cs,h=>by grind [Ob.und,Ob.ren,dR]
 | .row _ _ rows,h=>by grind [Ob.und,Ob.ren,gb]
 | .mp _ vals,h=>by grind [Ob.und,Ob.ren,dR]
 | .lp _ _ _ cs,h=>by grind [Ob.und,Ob.ren,dR]
end
def aG (cs:List AV):List (List AV):=cs.map fun c=>[c]
theorem x4 (cs:List AV):(aG cs).flatten=cs:=by
 induction cs with
 |nil=>rfl
 |cons c cs ih=>grind [aG]
theorem gf (cs:List AV):(aG cs).length=cs.length:=by simp [aG]
theorem NO (cs:List AV): ∀r∈aG cs,r.length=1:=by
 intro r hr
 obtain ⟨c,_,rfl⟩:=List.mem_map.1 hr
 rfl
theorem NQ (cs:List AV) (j:Nat) (c:AV):(aG cs).set j [c]=aG (cs.set j c):=by simp [aG,List.map_set]
theorem dE (f:Nat->Nat) (cs:List AV):dc f (aG cs)=aG (b6 f cs):=by
 induction cs with
 |nil=>rfl
 |cons c cs ih=>grind [aG,dc,b6]
def vs (xs:List Value):List AV:=xs.map .v
theorem lE (f:Nat->Nat) (xs:List Value):b6 f (vs xs)=vs xs:=by
 induction xs with
 |nil=>rfl
 |cons x xs ih=>grind [vs,b6,AV.ren]
def dw (o:Nat):List (List Value)->List AV
 |[]=>[]
 |R::Rs=> .sr o 1 0 R.length::dw (o+1) Rs
theorem du: ∀(o:Nat) (Rs:List (List Value)),(dw o Rs).length=Rs.length
 |_,[]=>rfl
 |o,R::Rs=>by simp [dw,du (o+1) Rs]
theorem fB: ∀(o:Nat) (Rs:List (List Value)) (i:Nat),(dw o Rs)[i]? =(Rs[i]?).map fun R=> .sr (o+i) 1 0 R.length
 |_,[],i=>by simp [dw]
 |o,R::Rs,0=>by simp [dw]
 |o,R::Rs,i+1=>by
  simp only [dw,List.getElem?_cons_succ]
  rw [fB (o+1) Rs i,show o+1+i=o+(i+1) by omega]
def inner (Ti:TypeId) (R:List Value):Ob:= .row Ti 1 (aG (vs R))
theorem jd (f:Nat->Nat) (Ti:TypeId) (R:List Value):(inner Ti R).ren f=inner Ti R:=by grind [inner,Ob.ren,dE,lE]
def cp (o:Nat) (T Ti:TypeId) (Rs:List (List Value)):List Ob:= .row T 1 (aG (dw (o+1) Rs))::Rs.map (inner Ti)
theorem sK (o:Nat) (T Ti:TypeId) (Rs:List (List Value)):(cp o T Ti Rs).length=Rs.length+1:=by simp [cp]
def ma (o:Nat) (T Ti:TypeId) (j:Nat) (xs:List Value) (R:List Value):List Ob:=[.row T 1 (aG ((vs xs).set j (.sr (o+1) 1 0 R.length))),inner Ti R]
theorem HS {f:Nat->Nat} {N:Nat} (hf: ∀i,i<N->f i=i) {L:Loc} (hu:L.all (fun p=>p.2.und N)=true) {t:Nat} {av:AV} (h:lk L t=some av):av.ren f=av:=by
 induction L with
 |nil=>simp [lk] at h
 |cons p L ih=>
  grind [dk,nE]
theorem fq {m:Mem} {γ:Gam} {w:World} {o:Nat} {T:TypeId} {cs:List AV} (h:gI m γ w o (.row T 1 (aG cs))) (h0:0<cs.length):
  ∃xs,aB m γ cs xs/\ ∀cs',aB m γ cs' xs->gI m γ w o (.row T 1 (aG cs')):=by
 rcases h with ⟨_,h2⟩|⟨b,C,vals,h1,h2,h3,h4,h5,h6,h7,h8⟩
 ·have:=congrArg length h2
  simp [aG] at this
  rw [this] at h0;simp at h0
 ·rw [x4] at h7
  refine ⟨_,h7,fun cs' h=> .inr ⟨b,C,vals,h1,h2,h3,?_,h5,NO cs',?_,h8⟩⟩
  ·have e1:=aZ h
   have e2:=aZ h7
   rw [gf] at h4⊢
   omega
  ·have e1:=aZ h
   have e2:=aZ h7
   rw [x4,gf]
   rw [gf] at h
   rw [show cs'.length=cs.length by omega]
   exact h
theorem eP (f:Nat->Nat): ∀(cs:List AV) (j:Nat) (c:AV),b6 f (cs.set j c)=(b6 f cs).set j (c.ren f)
 |[],_,_=>rfl
 |_::_,0,_=>rfl
 |x::cs,j+1,c=>by simp only [List.set_cons_succ,b6,eP f cs j c]
theorem JP (ks:List Nat) (R:List Value):(aG (vs R)).map (fun r=>r.map (iu ks))=aG (vs R):=by
 induction R with
 |nil=>rfl
 |cons x R ih=>simp only [aG,vs,List.map_cons,List.map_nil] at ih⊢;rw [ih];rfl
theorem oO (ks:List Nat) (Ti:TypeId) (R:List Value):ld ks (inner Ti R)=inner Ti R:=by simp only [inner,ld,JP]
theorem nF (k j i:Nat):(range (k+1)++ [k+1+j])[i]? =if i<k+1 then some i else if i=k+1 then some (k+1+j) else none:=by
 grind
theorem c9 {A:List Ob} {X:Ob} {B:List Ob} {i:Nat}:(A++X::B)[i]? =if i<A.length then A[i]? else if i=A.length then some X else B[i-(A.length+1)]? :=by
 grind
section
variable {P:Program} {n K:Nat}
set_option maxHeartbeats 1000000 in
theorem JQ {c:Code} {L L' :Loc} {base base' :List Ob} {T Ti:TypeId} {Rs:List (List Value)} {j:Nat} {Rj R' :List Value} {x:AX} (hj:Rs[j]? =some Rj) (hb:base'.length=base.length) (hK:K<=base.length+1) (hrf:c.rf=false) (hx:eT x=true)
  (uL:L.all (fun p=>p.2.und (base.length+1))=true) (uL' :L'.all (fun p=>p.2.und (base.length+1))=true) (ub:base.all (Ob.und (base.length+1))=true) (ub' :base'.all (Ob.und (base.length+1))=true) (nd: ∀X∈base,X≠ .dead)
  (h: ∀xs:List Value,xs.length=Rs.length->Piece P n (base.length+1) c L (base++ma base.length T Ti j xs Rj) x L' (base' ++ma base.length T Ti j xs R')):
  Piece P n K c L (base++cp base.length T Ti Rs) x L' (base' ++cp base.length T Ti (Rs.set j R')):=by
 intro df Q hd hq m γ w a hi hl hs ht
 have hjl:j<Rs.length:=(List.getElem?_eq_some_iff.1 hj).1
 generalize hk:base.length=k at*
 have hout:(base++cp k T Ti Rs)[k]? =some (.row T 1 (aG (dw (k+1) Rs))):=by rw [cp,c9,hk];simp
 obtain ⟨xs,hxs,hre⟩:=fq (hi.obj k _ hout) (by rw [du];omega)
 have hxl:xs.length=Rs.length:=by rw [aZ hxs,du]
 have hxr: ∀(i:Nat) R x,Rs[i]? =some R->xs[i]? =some x->Rep m γ (.sr (k+1+i) 1 0 R.length) x:=fun i R x hR hx=>by
  obtain ⟨y,hy,hr⟩:=b5 hxs i (.sr (k+1+i) 1 0 R.length) (by rw [fB,hR];rfl)
  rw [hx] at hy;cases hy;exact hr
 have hcell:aB m γ ((vs xs).set j (.sr (k+1+j) 1 0 Rj.length)) xs:=by
  refine cM (by simp [vs]) fun i c y hc hy=> ?_
  by_cases hij:j=i
  ·subst hij
   rw [List.getElem?_set_self oaA] at hc
   cases hc
   exact hxr j Rj y hj hy
  ·rw [List.getElem?_set_ne hij] at hc
   rw [vs,List.getElem?_map,hy] at hc
   cases hc
   simp [Rep]
 let out2:Ob:= .row T 1 (aG ((vs xs).set j (.sr (k+1+j) 1 0 Rj.length)))
 let ob2:List Ob:=base++out2::Rs.map (inner Ti)
 have hlen2:ob2.length=k+1+Rs.length:=by simp [ob2,hk];omega
 have hlen1:(base++cp k T Ti Rs).length=k+1+Rs.length:=by simp [cp,hk];omega
 have hi2:Inv m γ ob2 w:=by
  refine kG hi (by rw [hlen2,hlen1]) fun i Y hY=> ?_
  by_cases hd:Y= .dead
  ·exact .inl hd
  ·right
   by_cases hik:i=k
   ·subst hik
    rw [c9,hk] at hY
    simp at hY
    subst hY
    exact ⟨⟨_,hout,by simp⟩,hre _ hcell⟩
   ·have e:(base++cp k T Ti Rs)[i]? =some Y:=by
     rw [<-hY]
     simp only [cp,ob2]
     rw [c9,c9,hk,if_neg hik,if_neg hik]
    exact ⟨⟨Y,e,hd⟩,hi.obj i Y e⟩
 let sel:=range (k+1)++ [k+1+j]
 have hsl:sel.length=k+2:=by simp [sel]
 have hnd:sel.Nodup:=by
  refine List.nodup_append.2 ⟨List.nodup_range,by simp,fun a ha b hb e=> ?_⟩
  simp at ha hb
  omega
 have fid: ∀i,i<k+1->b0 sel ob2.length i=i:=fun i hi=>ek (by simp only [sel];rw [nF,if_pos hi])
 have f1:b0 sel ob2.length (k+1)=k+1+j:=ek (by simp only [sel];rw [nF,if_neg oab,if_pos rfl])
 have hsel: ∀(i s:Nat) (X:Ob),sel[i]? =some s->(base++ma k T Ti j xs Rj)[i]? =some X->ob2[s]? =some (X.ren (b0 sel ob2.length))/\X≠ .dead:=by
  intro i s X h1 h2
  simp only [sel] at h1
  rw [nF] at h1
  rw [ma,c9,hk] at h2
  by_cases hik:i<k
  ·rw [if_pos oab] at h1
   rw [if_pos hik] at h2
   cases h1
   have hX:=List.mem_of_getElem? h2
   refine ⟨?_,nd X hX⟩
   rw [sJ fid X (List.all_eq_true.1 ub X hX)]
   simp only [ob2]
   rw [c9,hk,if_pos hik];exact h2
  ·rw [if_neg hik] at h2
   by_cases hie:i=k
   ·subst hie
    rw [if_pos oab] at h1
    rw [if_pos rfl] at h2
    cases h1;cases h2
    refine ⟨?_,by simp⟩
    have e2:ob2[i]? =some out2:=by
     simp only [ob2]
     rw [c9,hk,if_neg oab,if_pos rfl]
    rw [e2]
    simp only [Ob.ren,dE,eP,lE,AV.ren,f1,out2]
   ·rw [if_neg oab] at h1
    rw [if_neg hie] at h2
    split at h1
    ·rename_i h3
     subst h3
     cases h1
     simp at h2
     subst h2
     refine ⟨?_,by simp [inner]⟩
     rw [jd]
     simp only [ob2]
     rw [c9,hk,if_neg oab,if_neg oab,show k+1+j-(k+1)=j by omega,List.getElem?_map,hj];rfl
    ·cases h1
 have hisel:=nv hi2 hnd (by rw [hsl];simp [ma,hk]) hsel
 have hlS:b9 m (fun i=>γ (b0 sel ob2.length i)) a L:=fun t av e=>by
  obtain ⟨q1,q2⟩:=hl t av e
  refine ⟨q1,(dM av _).2 ?_⟩
  rw [HS fid uL e];exact q2
 refine wpIn_mono (h xs hxl df (fun x1 L1 ob1=>x1=x/\L1=L' /\ob1=base' ++ma k T Ti j xs R') hd ⟨rfl,rfl,rfl⟩ m _ w a hisel hlS hs ht) ?_
 rintro e a1 w1 ⟨m1,γ1,L1,ob1,ax,⟨rfl,rfl,rfl⟩,h2,h3,h4,h5,h6,h7,h8⟩
 have hl1:(base' ++ma k T Ti j xs R').length=k+2:=by simp [ma,hb]
 obtain ⟨γ',g1,g2,g3,g4⟩:=ky hi2 (kk:=[k+1]) hnd (by rw [hsl];simp [ma,hk]) hsel (by rw [hsl,hl1];exact Nat.le_refl _) (by rw [hsl];simp) h3 h4 (fun o g ho hg=>by
  by_cases hok:o<k+1
  ·exact h8 o g ⟨hok,rfl⟩ hg
  ·have ho2:o≠k+1:=by intro e;subst e;simp at ho
   exfalso
   have:=hi2.len _ (show γ (b0 sel ob2.length o)≠none by rw [hg];simp)
   rw [jK (by rw [hsl];omega)] at this
   omega)
 let out3:Ob:= .row T 1 (aG ((vs xs).set j (.sr (k+1+j) 1 0 R'.length)))
 have hs1: ∀s∈sel,s<(ej ([k+1].map (b0 sel ob2.length)) ob2).length:=by
  intro s hs
  rw [eL,hlen2]
  rcases List.mem_append.1 hs with hs|hs
  ·have:=List.mem_range.1 hs;omega
  ·simp at hs;omega
 have hback:back ob2 sel [k+1] (base' ++ma k T Ti j xs R')=base' ++out3::(Rs.set j R').map (inner Ti):=by
  obtain ⟨sg1,sg2⟩:=lh (ob:=ej ([k+1].map (b0 sel ob2.length)) ob2) (obc:=((base' ++ma k T Ti j xs R').take sel.length).map (Ob.ren (b0 sel ob2.length))) hnd (by rw [List.length_map,List.length_take,hl1,hsl];simp) hs1
  have hlen3:(gW (ej ([k+1].map (b0 sel ob2.length)) ob2) sel (((base' ++ma k T Ti j xs R').take sel.length).map (Ob.ren (b0 sel ob2.length)))).length=k+1+Rs.length:=by rw [ib,eL,hlen2]
  unfold back
  rw [List.drop_eq_nil_of_le (by rw [hl1,hsl];exact Nat.le_refl _),List.map_nil,List.append_nil]
  have hlen4:(base' ++out3::(Rs.set j R').map (inner Ti)).length=k+1+Rs.length:=by simp [hb];omega
  have htk:(base' ++ma k T Ti j xs R').take sel.length=base' ++ma k T Ti j xs R' :=List.take_of_length_le (by rw [hl1,hsl];exact Nat.le_refl _)
  rw [htk] at sg1 sg2⊢
  have hget3: ∀i,(base' ++ma k T Ti j xs R')[i]? =if i<k then base'[i]? else if i=k then some (.row T 1 (aG ((vs xs).set j (.sr (k+1) 1 0 R'.length)))) else [inner Ti R'][i-(k+1)]? :=fun i=>by rw [ma,c9,hb]
  apply List.ext_getElem?
  intro i
  rw [c9,hb]
  by_cases hik:i<k
  ·rw [if_pos hik]
   have e1:base'[i]? =some (base'[i]'oab):=List.getElem?_eq_getElem oab
   have hX:=List.mem_of_getElem? e1
   refine (sg1 i i ((base'[i]'oab).ren (b0 sel ob2.length)) (by simp only [sel];rw [nF,if_pos oab]) (by rw [List.getElem?_map,hget3,if_pos hik,e1];rfl)).trans ?_
   rw [sJ fid _ (List.all_eq_true.1 ub' _ hX),e1]
  ·rw [if_neg hik]
   by_cases hie:i=k
   ·rw [if_pos hie]
    subst hie
    refine (sg1 i i out3 (by simp only [sel];rw [nF,if_pos oab]) ?_)
    rw [List.getElem?_map,hget3,if_neg hik,if_pos rfl]
    simp only [Option.map_some,Ob.ren,dE,eP,lE,AV.ren,f1,out3]
   ·rw [if_neg hie]
    by_cases hij:i=k+1+j
    ·subst hij
     refine (sg1 (k+1) (k+1+j) (inner Ti R') (by simp only [sel];rw [nF,if_neg oab,if_pos rfl]) ?_).trans ?_
     ·rw [List.getElem?_map,hget3,if_neg oab,if_neg oab]
      simp [jd]
     ·rw [show k+1+j-(k+1)=j by omega,List.getElem?_map,List.getElem?_set_self hjl];rfl
    ·rw [sg2 i (by
      intro hm
      rcases List.mem_append.1 hm with hm|hm
      ·have:=List.mem_range.1 hm;omega
      ·simp at hm;exact hij hm)]
     rw [jL]
     simp only [List.map_cons,List.map_nil,ob2]
     rw [c9,hk,if_neg hik,if_neg hie,List.getElem?_map,List.getElem?_map,List.getElem?_set_ne oab]
     cases Rs[i-(k+1)]? with
     |none=>rfl
     |some R=>simp only [Option.map_some,oO]
 rw [hback] at g4
 have hout3:(base' ++out3::(Rs.set j R').map (inner Ti))[k]? =some out3:=by rw [c9,hb];simp
 obtain ⟨ys,hys,hre3⟩:=fq (g4.obj k _ hout3) oaA
 have hyl:ys.length=Rs.length:=by rw [aZ hys];simp [vs,hxl]
 have hcell3:aB m1 γ' (dw (k+1) (Rs.set j R')) ys:=by
  refine cM (by rw [du,List.length_set,hyl]) fun i c y hc hy=> ?_
  rw [fB] at hc
  by_cases hij:j=i
  ·subst hij
   rw [List.getElem?_set_self hjl] at hc
   cases hc
   obtain ⟨z,hz,hr⟩:=b5 hys j (.sr (k+1+j) 1 0 R'.length) (List.getElem?_set_self oaA)
   rw [hy] at hz;cases hz;exact hr
  ·rw [List.getElem?_set_ne hij] at hc
   cases hR:Rs[i]? with
   |none=>rw [hR] at hc;cases hc
   |some R=>
    rw [hR] at hc
    cases hc
    have hil:i<Rs.length:=(List.getElem?_eq_some_iff.1 hR).1
    have e1:xs[i]? =some (xs[i]'oab):=List.getElem?_eq_getElem oab
    obtain ⟨z,hz,hr⟩:=b5 hys i (.v (xs[i]'oab)) (by rw [List.getElem?_set_ne hij,vs,List.getElem?_map,e1];rfl)
    rw [hy] at hz;cases hz
    have hr' :y=xs[i]'oab:=by simpa [Rep] using hr
    subst hr'
    refine fm g3 _ _ ?_ (hxr i R _ hR e1)
    simp only [List.map_cons,List.map_nil,f1,AV.free]
    simp;omega
 have hfin:Inv m1 γ' (base' ++cp k T Ti (Rs.set j R')) w1:=by
  refine kG g4 (by simp [cp]) fun i Y hY=> ?_
  by_cases hd:Y= .dead
  ·exact .inl hd
  ·right
   by_cases hik:i=k
   ·subst hik
    rw [cp,c9,hb] at hY
    simp at hY
    subst hY
    exact ⟨⟨_,hout3,by simp [out3]⟩,hre3 _ hcell3⟩
   ·have e:(base' ++out3::(Rs.set j R').map (inner Ti))[i]? =some Y:=by
     rw [<-hY]
     simp only [cp]
     rw [c9,c9,hb,if_neg hik,if_neg hik]
    exact ⟨⟨Y,e,hd⟩,g4.obj i Y e⟩
 obtain ⟨Ds,d1,d2,_,_⟩:=h7
 have hDs:Ds=[]:=by
  rcases d2 with d2|d2
  ·rw [hrf] at d2;cases d2
  ·exact d2
 subst hDs
 refine ⟨m1,γ',_,_,_,hq,?_,g2,hfin,fun t av e1=> ?_,h6,Marks.of_eq (by simpa using d1),fun o g ho hg=> ?_⟩
 ·cases ax with
  |panic av=>cases hx
  |_=>cases e<;>first|exact h2.elim|exact h2
 ·obtain ⟨q1,q2⟩:=h5 t av e1
  refine ⟨q1,?_⟩
  have q3:=(dM (m:=m1) (γ:=γ') (f:=b0 sel ob2.length) av _).1 (by rw [show (fun i=>γ' (b0 sel ob2.length i))=γ1 from funext g1];exact q2)
  rw [HS fid uL' e1] at q3
  exact q3
 ·refine g3.gam o g hg ?_
  have:=ho.1
  simp only [List.map_cons,List.map_nil,f1]
  simp;omega
theorem Mg {L L' :Loc} {ob ob' :List Ob} (h: ∀m γ w,Inv m γ ob w-> ∃m' γ',Trans m γ w m' γ' w/\Inv m' γ' ob' w/\(∀o,o<K->γ' o=γ o)/\(∀a,b9 m γ a L->b9 m' γ' a L')):xW P n K L ob L' ob' :=by
 intro df c Q hq m γ w a hi hl hs hd
 obtain ⟨m',γ',t1,i1,g1,l1⟩:=h m γ w hi
 refine wpIn_mono (hq m' γ' w a i1 (l1 a hl) hs hd) ?_
 rintro e a1 w1 ⟨m1,γ1,L1,ob1,ax,h1,h2,h3,h4,h5,h6,h7,h8⟩
 exact ⟨m1,γ1,L1,ob1,ax,h1,h2,t1.trans h3,h4,h5,h6,h7,fun o g ho hg=>h8 o g ho (by rw [g1 o ho.1];exact hg)⟩
theorem JR {L:Loc} {base:List Ob} {T:TypeId} (Ti:TypeId) {N:Nat} (hK:K<=base.length+1):
  xW P n K L (base++ [.row T 1 (aG (replicate N (.v (.slice none 0 0))))]) L (base++cp base.length T Ti (replicate N [])):=by
 refine Mg fun m γ w hi=> ?_
 generalize hk:base.length=k at*
 let γ' :Gam:=fun o=>if o<k+1 then γ o else if o<k+1+N then some none else none
 have hlen:(base++ [Ob.row T 1 (aG (replicate N (.v (.slice none 0 0))))]).length=k+1:=by simp [hk]
 have hnone: ∀o,¬o<k+1->γ o=none:=fun o ho=>by
  cases hg:γ o with
  |none=>rfl
  |some g=>
   have:=hi.len o oaz
   rw [hlen] at this;omega
 have hle:Le m γ [] m γ' :=⟨fun _ _ h=>h,fun o g hg _=>by
  by_cases ho:o<k+1
  ·simp only [γ',if_pos ho];exact hg
  ·rw [hnone o ho] at hg;cases hg⟩
 have hback: ∀o b C,γ' o=some (some (b,C))->γ o=some (some (b,C))/\o<k+1:=fun o b C hg=>by
  by_cases ho:o<k+1
  ·simp only [γ',if_pos ho] at hg;exact ⟨hg,ho⟩
  ·simp only [γ',if_neg ho] at hg
   split at hg<;>cases hg
 have hout:(base++ [Ob.row T 1 (aG (replicate N (.v (.slice none 0 0))))])[k]? =some (.row T 1 (aG (replicate N (.v (.slice none 0 0))))):=by rw [c9,hk];simp
 have hnest: ∀o Y,(base++cp k T Ti (replicate N []))[o]? =some Y->(o<k/\base[o]? =some Y)\/(o=k/\Y= .row T 1 (aG (dw (k+1) (replicate N []))))\/(k<o/\o<k+1+N/\Y=inner Ti []):=by
  intro o Y hY
  rw [cp,c9,hk] at hY
  split at hY
  ·exact .inl ⟨by assumption,hY⟩
  ·split at hY
   ·cases hY;exact .inr (.inl ⟨by assumption,rfl⟩)
   ·rw [List.getElem?_map,List.getElem?_replicate] at hY
    split at hY
    ·cases hY;exact .inr (.inr ⟨by omega,by omega,rfl⟩)
    ·cases hY
 have hrow:gI m γ' w k (.row T 1 (aG (dw (k+1) (replicate N [])))):=by
  have h0:=eK (hi.obj k _ hout) hle (fun _ _ _=>rfl) (fun _ _ _ _ h=>h)
  by_cases hN:N=0
  ·subst hN;exact h0
  ·obtain ⟨xs,hxs,hre⟩:=fq h0 oat
   refine hre _ (cM (by rw [aZ hxs,du];simp) fun i c x hc hx=> ?_)
   rw [fB,List.getElem?_replicate] at hc
   split at hc
   ·rename_i hiN
    cases hc
    obtain ⟨y,hy,hr⟩:=b5 hxs i (.v (.slice none 0 0)) (by rw [List.getElem?_replicate,if_pos hiN])
    rw [hx] at hy;cases hy
    have hxe:x= .slice none 0 0:=by simpa [Rep] using hr
    subst hxe
    simp only [Rep]
    exact .inl ⟨by simp only [γ'];rw [if_neg oab,if_pos oab],⟨none,rfl⟩,trivial,rfl⟩
   ·cases hc
 refine ⟨m,γ',⟨fun _ _ h=>h,fun _ _ h=> .inl h,fun q _ ⟨o,C,h⟩=>⟨o,C,(hback o q C h).1⟩,rfl,rfl,rfl,Nat.le_refl _,fun _ _ _=>rfl⟩,⟨hi.mem,fun o Y hY=> ?_,fun o o' b C C' l1 l2 h1 h2=> ?_,fun o b C h=>hi.dom o b C (hback o b C h).1,fun o h=> ?_⟩,fun o ho=> ?_,fun a hl t av e=>⟨(hl t av e).1,vV hle (hl t av e).2⟩⟩
 ·rcases hnest o Y hY with ⟨h1,h2⟩|⟨rfl,rfl⟩|⟨h1,h2,rfl⟩
  ·refine eK (hi.obj o Y ?_) hle (fun _ _ _=>rfl) (fun _ _ _ _ h=>h)
   rw [c9,hk,if_pos h1];exact h2
  ·exact hrow
  ·exact .inl ⟨by simp only [γ'];rw [if_neg oab,if_pos h2],rfl⟩
 ·have hlv: ∀o b C,γ' o=some (some (b,C))->live (base++cp k T Ti (replicate N [])) o->live (base++ [Ob.row T 1 (aG (replicate N (.v (.slice none 0 0))))]) o:=by
   rintro o b C hg ⟨Y,hY,hne⟩
   have ho:=(hback o b C hg).2
   rcases hnest o Y hY with ⟨h1,h2⟩|⟨rfl,rfl⟩|⟨h1,h2,rfl⟩
   ·exact ⟨Y,by rw [c9,hk,if_pos h1];exact h2,hne⟩
   ·exact ⟨_,hout,by simp⟩
   ·omega
  exact hi.sep o o' b C C' (hlv o b C h1 l1) (hlv o' b C' h2 l2) (hback o b C h1).1 (hback o' b C' h2).1
 ·rw [List.length_append,sK,hk,List.length_replicate]
  by_cases h1:o<k+1
  ·omega
  ·simp only [γ',if_neg h1] at h
   split at h
   ·omega
   ·exact absurd rfl h
 ·simp only [γ'];rw [if_pos oab]
def iP (Rs:List (List Value)):List AV:=Rs.map fun R=> .sl 1 (aG (vs R))
theorem PX {m:Mem} {γ:Gam} {o:Nat} {cs:List AV} (h:(γ o=some none/\aG cs=[])\/ ∃b C,γ o=some (some (b,C))/\(aG cs).length<=C/\bN m γ 1 (aG cs) b 0) {x:Value} (hx:Rep m γ (.sr o 1 0 cs.length) x):Rep m γ (.sl 1 (aG cs)) x:=by
 grind [Rep,gf]
theorem CZ {m:Mem} {γ:Gam}: ∀{cs cs' :List AV} {b off:Nat},cs'.length=cs.length->(∀(i:Nat) (c c' :AV) (x:Value),cs[i]? =some c->cs'[i]? =some c' ->Rep m γ c x->Rep m γ c' x)->bN m γ 1 (aG cs) b off->bN m γ 1 (aG cs') b off
 |[],[],_,_,_,_,h=>h
 |[],_::_,_,_,hl,_,_=>by simp at hl
 |_::_,[],_,_,hl,_,_=>by simp at hl
 |c::cs,c' ::cs',b,off,hl,hc,h=>by
  simp only [aG,List.map_cons,bN,bJ] at h⊢
  obtain ⟨h1,⟨⟨x,h2,h3⟩,_⟩,h4⟩:=h
  exact ⟨rfl,⟨⟨x,h2,hc 0 c c' x rfl rfl h3⟩,trivial⟩,CZ (cs:=cs) (cs' :=cs') (by simpa using hl) (fun i d d' y e1 e2=>hc (i+1) d d' y (by simpa using e1) (by simpa using e2)) h4⟩
theorem NR {L L' :Loc} {base:List Ob} {T Ti:TypeId} {Rs:List (List Value)} (hK:K<=base.length) (ub:base.all (Ob.und base.length)=true)
  (hL: ∀t av',lk L' t=some av' ->(lk L t=some av' /\av'.und base.length=true)\/(lk L t=some (.sr base.length 1 0 Rs.length)/\av' = .sl 1 (aG (iP Rs)))) (m:Mem) (γ:Gam) (w:World) (hi:Inv m γ (base++cp base.length T Ti Rs) w):
  ∃m' γ',Trans m γ w m' γ' w/\Inv m' γ' base w/\(∀o,o<K->γ' o=γ o)/\(∀k,InG γ' k->InG γ k)/\(∀a,b9 m γ a L->b9 m' γ' a L'):=by
 obtain ⟨m',hf,hi',ht⟩:=j5 hi base.length (Rs.length+1)
 obtain ⟨ys,hys⟩:=xx (K:=base.length) (obs:=base++cp base.length T Ti Rs) (ob:=base) oai (Rs.length+1)
 rw [hys] at hi'
 obtain ⟨d1,d2⟩:=mq hi' ub
 have hout:(base++cp base.length T Ti Rs)[base.length]? =some (.row T 1 (aG (dw (base.length+1) Rs))):=by rw [cp,c9];simp
 have hin: ∀i R,Rs[i]? =some R->(base++cp base.length T Ti Rs)[base.length+1+i]? =some (inner Ti R):=fun i R h=>by
  rw [cp,c9,if_neg oab,if_neg oab,show base.length+1+i-(base.length+1)=i by omega,List.getElem?_map,h];rfl
 refine ⟨m',fun o=>if o<base.length then γ o else none,⟨ht.mem,ht.new,fun q hq ⟨o,C,h⟩=> ?_,rfl,rfl,rfl,Nat.le_refl _,fun _ _ _=>rfl⟩,d1,fun o ho=>by simp;omega,fun q ⟨o,C,h⟩=> ?_,fun a hl t av' e=> ?_⟩
 ·simp only at h
  split at h
  ·exact ⟨o,C,h⟩
  ·cases h
 ·simp only at h
  split at h
  ·exact ⟨o,C,h⟩
  ·cases h
 ·rcases hL t av' e with ⟨h1,h2⟩|⟨h1,rfl⟩
  ·obtain ⟨q1,q2⟩:=hl t _ h1
   exact ⟨q1,d2 _ _ h2 (vV hf.le q2)⟩
  ·obtain ⟨q1,q2⟩:=hl t _ h1
   refine ⟨q1,d2 _ _ (aQ _ _ ?_) ?_⟩
   ·simp only [AV.pure]
    clear hL hin hout hf hi' hys hi d1 d2 h1 q1 q2 e
    induction Rs with
    |nil=>rfl
    |cons R Rs ih=>
     have hp:aj (aG (vs R))=true:=by
      induction R with
      |nil=>rfl
      |cons x R ih=>simp only [aG,vs,List.map_cons,aj,ah,AV.pure,Bool.and_self,Bool.true_and] at ih⊢;exact ih
     simp only [aG,iP,List.map_cons,aj,ah,AV.pure,Bool.and_true,Bool.and_eq_true] at ih hp⊢
     exact ⟨hp,ih⟩
   ·have hx:=vV hf.le q2
    have h0:=hf.row base.length T 1 _ (Nat.le_refl _) oab hout
    have hx1:Rep m' γ (.sl 1 (aG (dw (base.length+1) Rs))) (a.tmps.getD t undef):=PX h0 (by rw [du];exact hx)
    simp only [Rep] at hx1⊢
    obtain ⟨ad,len,cap,e1,e2,e3,e4⟩:=hx1
    refine ⟨ad,len,cap,e1,by rw [e2,gf,gf,du];simp [iP],e3,?_⟩
    rcases e4 with e4|⟨b,off,e5,e6⟩
    ·left
     have:=congrArg length e4
     rw [gf,du] at this
     have hRs:Rs=[]:=List.length_eq_zero_iff.1 (by simpa using this)
     subst hRs;rfl
    ·right
     refine ⟨b,off,e5,CZ (by rw [du];simp [iP]) (fun i c c' x hc hc' hr=> ?_) e6⟩
     rw [fB] at hc
     cases hR:Rs[i]? with
     |none=>rw [hR] at hc;cases hc
     |some R=>
      rw [hR] at hc
      cases hc
      rw [iP,List.getElem?_map,hR] at hc'
      cases hc'
      have hil:i<Rs.length:=(List.getElem?_eq_some_iff.1 hR).1
      refine PX (hf.row (base.length+1+i) Ti 1 _ oab oab (hin i R hR)) ?_
      rw [show (vs R).length=R.length by simp [vs]]
      exact hr
end
section
variable {P:Program}
end
theorem ac {b:Bool} {l:List Bool} (h:b=true) (k:cx l=true):cx (b::l)=true:=by simp only [cx,h,k,Bool.and_self]
theorem au {b:Bool} (h:b=false):(!b)=true:=by rw [h];rfl
section
variable {α:Type} [Inhabited α]
def aq (l:List α) (s:Int):α:=(l[s.toNat]?).getD default
def ae (l:List α) (i:Nat):α:=(l[i]?).getD default
theorem eM {l:List α} {i:Nat} (h:i<l.length):l[i]? =some (ae l i):=by simp [ae,h]
theorem PY {l:List α} {s:Int} (h0:0<=s) (h:s<l.length):l[s.toNat]? =some (aq l s):=by
 simp_all [aq]
theorem HT {l:List α} {f:α->List AV} {s:Int} (h0:decide (s>=0)=true) (h:decide (s<(((l.map f).length:Nat):Int))=true):(dec (s=((s.toNat:Nat):Int))&&dec ((l.map f)[s.toNat]? =some (f (aq l s))))=true:=by
 grind [aP,PY]
theorem qF {l:List α} {f:α->List AV} {i:Nat} (h:i<l.length):dec ((l.map f)[i]? =some (f (ae l i)))=true:=aP.2 (by rw [List.getElem?_map,eM h];rfl)
end
section
variable {P:Program} {fn:Func} {callf:cI} {pu:FuncId->Bool} {lf:Nat}
end
theorem PZ {f:Nat->Nat} {N:Nat} (hf: ∀i,i<N->f i=i) {A:List Ob} (h:A.all (Ob.und N)=true):n9 f (A.map some) A:=NG (by
 induction A with
 |nil=>rfl
 |cons X A ih=>
  grind [sJ])
theorem dj {α:Type} {f:α->List AV} (hf: ∀x,ah (f x)=true) (N:Nat) (l:List α):cZ N (l.map f)=true:=by
 induction l with
 |nil=>rfl
 |cons x l ih=>grind [cZ,dD]
theorem aY {α:Type} {f:α->List AV} (hf: ∀x,ah (f x)=true) (l:List α):aj (l.map f)=true:=by
 induction l with
 |nil=>rfl
 |cons x l ih=>grind [aj]
theorem JS (k N:Nat): ∀i,i<k->b0 (range k) N i=i:=fun i hi=>ek (by rw [List.getElem?_range hi])
def cO (s:ByteArray) (i:Nat):Int:=((s[i]?).getD 0).toNat
end Go.Am
namespace Go.Proofs.YtfkjfjalecikkaaGreatDoor
open Go.Am
noncomputable def aH (f:Nat):Code:=match Tryz.prog.funcs[f]? with
 |some fn=>match fn.body with
  |some c=>c
  |none=> .skip
 |none=> .skip
def sq1:Code->Code
 | .seq a _=>a
 |c=>c
def sq2:Code->Code
 | .seq _ b=>b
 |c=>c
def inn:Code->Code
 | .block _ (.loop c)=>c
 |c=>c
abbrev I (z:Int):AV:= .v (.int .i64 z)
abbrev I8 (z:Int):AV:= .v (.int .i8 z)
abbrev I32 (z:Int):AV:= .v (.int .i32 z)
abbrev B (b:Bool):AV:= .v (.bool b)
abbrev S (s:ByteArray):AV:= .v (.string s)
def aK:FuncId->Bool:=fun _=>false
noncomputable abbrev pg:=Tryz.prog
noncomputable def base:cI:=Hy Tryz.prog (fun _=>false) 3000 60
theorem aw:ct Tryz.prog base:=HL mixed _ _ _
inductive G where
 |mk (op n:Int) (name:ByteArray) (kids:List G)
 deriving Inhabited
mutual
def gC:G->List AV
 | .mk op n s l=>[I8 op,I n,S s,.sl 4 (gR l)]
def gR:List G->List (List AV)
 |[]=>[]
 |g::l=>gC g::gR l
end
theorem EP: ∀l:List G,gR l=l.map gC
 |[]=>by simp [gR]
 |g::l=>by simp [gR,EP l]
mutual
theorem qG: ∀g:G,ah (gC g)=true
 | .mk op n s l=>by simp [gC,ah,AV.pure,Mh l]
theorem Mh: ∀l:List G,aj (gR l)=true
 |[]=>by simp [gR,aj]
 |g::l=>by simp [gR,aj,qG g,Mh l]
end
def G.op:G->Int
 | .mk o _ _ _=>o
def G.n:G->Int
 | .mk _ n _ _=>n
def G.name:G->ByteArray
 | .mk _ _ s _=>s
def G.kids:G->List G
 | .mk _ _ _ l=>l
def gCC (g:G):List AV:=[I8 g.op,I g.n,S g.name,.sl 4 (g.kids.map gC)]
theorem JT:gCC=gC:=funext fun g=>by
 obtain ⟨o,n,s,l⟩:=g
 grind [gCC,gC,EP,G.op,G.n,G.name,G.kids]
theorem P0 (g:G):ah (gCC g)=true:=by rw [JT];exact qG g
structure Edge where
 op:Int
 set:List (Int×Int)
 n:Int
 level:Int
 g:G
 ea:List (Int×Int)
 to:Int
 deriving Inhabited
structure State where
 aI:Int
 ai:List Edge
 deriving Inhabited
structure ca where
 name:ByteArray
 bO:Bool
 eU:Bool
 lazy:Bool
 left:Bool
 mode:Int
 type:Int
 start:Int
 stop:Int
 deriving Inhabited
structure Net where
 types:List ByteArray
 cu:List ByteArray
 cz:List ByteArray
 rules:List ca
 aa:List State
 deriving Inhabited
def bu (r:Int×Int):List AV:=[I32 r.1,I32 r.2]
def fk (a:Int×Int):List AV:=[I8 a.1,I a.2]
def aV (e:Edge):List AV:=[I8 e.op,.sl 2 (e.set.map bu),I e.n,I e.level,I8 e.g.op,I e.g.n,S e.g.name,.sl 4 (e.g.kids.map gC),.sl 2 (e.ea.map fk),I e.to]
def ak (s:State):List AV:=[I s.aI,.sl 10 (s.ai.map aV)]
def bH (s:ByteArray):List AV:=[S s]
def aE (r:ca):List AV:=[S r.name,B r.bO,B r.eU,B r.lazy,B r.left,I r.mode,I r.type,I r.start,I r.stop]
def aW (n:Net):List AV:=[.sl 1 (n.types.map bH),.sl 1 (n.cu.map bH),.sl 1 (n.cz.map bH),.sl 9 (n.rules.map aE),.sl 2 (n.aa.map ak)]
theorem mA (r:Int×Int):ah (bu r)=true:=rfl
theorem sL (r:Int×Int):ah (fk r)=true:=rfl
theorem kJ (r:ByteArray):ah (bH r)=true:=rfl
theorem oP (r:ca):ah (aE r)=true:=rfl
theorem oQ (e:Edge):ah (aV e)=true:=by simp [aV,ah,AV.pure,aY mA,aY sL,aY qG]
theorem mB (s:State):ah (ak s)=true:=by simp [ak,ah,AV.pure,aY oQ]
theorem sM (n:Net):ah (aW n)=true:=by grind [aW,ah,AV.pure,aY,kJ,oP,mB]
def gL (n:Net):AV:= .ag (aW n)
theorem und9:fe Tryz.prog (underlying 9)=some .string:=by kernel_rfl
theorem ixs (s:ByteArray) (i:Nat) (h:i<s.size):IxP Tryz.prog 9 (.string s) (.int .i64 i) (.int .u8 (cO s i)):=by
 have hs:s[i]? =some s[i]:=by simp [h]
 unfold IxP Instr.index
 refine (jN (show fe Tryz.prog (asIntOf (.int .i64 (i:Int)))=some (IntKind.i64,(i:Int)) from rfl)).trans ?_
 refine (jN und9).trans ?_
 simp [hs,cO]
 rfl
theorem size_pos {s:ByteArray} (h:cG (Array.toList (ByteArray.data s)) []=false):0<s.size:=by
 cases hl:Array.toList (ByteArray.data s) with
 |nil=>rw [hl] at h;cases h
 |cons a l=>have:=congrArg length hl;simp at this;omega
end Go.Proofs.YtfkjfjalecikkaaGreatDoor
namespace Go.Am
structure KB where
 L0:Loc
 ob0:List Ob
 hit:Bool
 x1:AX
 L1:Loc
 ob1:List Ob
 x2:AX
 L2:Loc
 ob2:List Ob
 p:Prop:=True
abbrev KBs:=Nat->Option KB
def Mj (a b c:Nat):Nat:=LZ 0 (Nat.add a (Nat.add b c))
noncomputable def C0 (k:KB) (M:Tri AV) (O:Tri Ob) (N:Nat):Bool:=dec (k.L0.map (fun p=>M.get p.1)=k.L0.map (fun p=>some p.2))&&dec (xH O N 0=k.ob0)&&dec k.p
noncomputable def P1 (k:KB) (M:Tri AV) (O:Tri Ob) (N:Nat) (tm:TM):RX:=match tm.gd with
 | .b true::r=> .ok k.x1 (bz k.L1) (bw k.ob1) k.ob1.length (((tm.told r (C0 k M O N)).asks k.hit).low (Mj k.ob0.length k.ob1.length k.ob2.length))
 | .b false::r=> .ok k.x2 (bz k.L2) (bw k.ob2) k.ob2.length (((tm.told r (C0 k M O N)).asks (!k.hit)).low (Mj k.ob0.length k.ob1.length k.ob2.length))
 |_=> .fail
noncomputable def kbR (id:Nat) (M:Tri AV) (O:Tri Ob) (N:Nat) (tm:TM) (a:RX):Option KB->RX
 |some k=>P1 k M O N tm
 |none=>oJ id a
noncomputable def P2 (M:Tri AV) (v:Bool):Operand->Tri AV
 | .tmp t=>M.set (.v (.bool v)) t
 |_=>M
noncomputable def Ml (x:Operand) (a b:Tri AV->Tri Ob->Nat->TM->RX) (M:Tri AV) (O:Tri Ob) (N:Nat) (tm:TM):Option AV->RX
 |some (.v (.bool v))=>match tm.gd with
  | .b true::r=>a (P2 M true x) O N (tm.told r v)
  | .b false::r=>b (P2 M false x) O N (tm.told r (!v))
  |_=>xK a b M O N tm (some (.v (.bool v)))
 |_=> .fail
noncomputable def runK (P:Program) (n:Nat) (callf:cI) (pu:FuncId->Bool) (lf:Nat) (kb:KBs) (c:Code):Tri AV->Tri Ob->Nat->TM->RX:=
 Code.rec (motive:=fun _=>Tri AV->Tri Ob->Nat->TM->RX)
  (fun M O N tm=> .ok .normal M O N tm)
  (fun _ ops draw M O N tm=>EA ops.toList draw (fV P n callf pu ops.toList ops.toList M O N tm))
  (fun _ _ a b M O N tm=>qz b (a M O N tm))
  (fun x _ _ a b M O N tm=>Ml x a b M O N tm (tev M x))
  (fun id _ a M O N tm=>kbR id M O N tm (a M O N tm) (kb id))
  (fun c _ M O N tm=>eu P n callf pu lf (.loop c) M O N tm)
  (fun g ps a b _ _ M O N tm=>eu P n callf pu lf (.rangeFunc g ps a b) M O N tm)
  (fun id M O N tm=> .ok (.exit id) M O N tm)
  (fun c _ M O N tm=>eu P n callf pu lf (.scope c) M O N tm)
  (fun _ M O N tm=> .ok .normal M O N tm)
  (fun _ _ _ _ _=> .fail)
  (fun M O N tm=> .ok .ret M O N tm)
  (fun _ _ _ _ _=> .fail) c
section
variable {P:Program} {n K:Nat} {callf:cI} {pu:FuncId->Bool} {lf:Nat}
def P3 (P:Program) (n K:Nat) (c:Code) (M:Tri AV) (O:Tri Ob) (N:Nat) (x:AX) (M' :Tri AV) (O' :Tri Ob) (N' :Nat):Prop:=
 ∀L ob,cw M L->bV O N ob->(∃L' ob',cw M' L' /\bV O' N' ob')/\
  ∀df Q,jG df c->(∀L' ob',cw M' L' ->bV O' N' ob' ->Q x L' ob')->awp df P n K [] c Q L ob
def X0 (P:Program) (n K:Nat) (c:Code) (M:Tri AV) (O:Tri Ob) (N:Nat) (tm:TM) (x:AX) (M' :Tri AV) (O' :Tri Ob) (N' :Nat) (tm' :TM):Prop:=Ext tm tm' /\(cx tm'.ok=true->(∃L ob,cw M L/\bV O N ob)->P3 P n K c M O N x M' O' N')
def fK (P:Program) (n K:Nat) (c:Code) (run:Tri AV->Tri Ob->Nat->TM->RX):Prop:= ∀{M:Tri AV} {O:Tri Ob} {N:Nat} {tm:TM} {x:AX} {M' :Tri AV} {O' :Tri Ob} {N' :Nat} {tm' :TM},run M O N tm= .ok x M' O' N' tm' ->X0 P n K c M O N tm x M' O' N' tm'
theorem dg (hcf:ct P callf) (hm:P.follows .mixedOrders=true) (c:Code):fK P n K c (eu P n callf pu lf c):=fun h=>by
 obtain ⟨e,k⟩:=oN hcf hm lf c h
 exact ⟨e,fun hok hex L ob hM hO=>⟨((k hok hex).2 L ob hM hO).1,fun df Q hd hq=>((k hok hex).2 L ob hM hO).2 df K Q hd hq⟩⟩
def oR (P:Program) (n K:Nat) (kb:KBs):Code->Prop
 | .seq a b=>oR P n K kb a/\oR P n K kb b
 | .cond _ a b=>oR P n K kb a/\oR P n K kb b
 | .block id c=>match kb id with
  |some k=>(k.p->k.hit=true->Piece P n K (.block id c) k.L0 k.ob0 k.x1 k.L1 k.ob1)/\(k.p->k.hit=false->Piece P n K (.block id c) k.L0 k.ob0 k.x2 k.L2 k.ob2)
  |none=>oR P n K kb c
 | .loop c=>oR P n K kb c
 | .scope c=>oR P n K kb c
 |_=>True
theorem JU {M:Tri AV} {L:Loc} (hM:cw M L): ∀{l:Loc},l.map (fun p=>M.get p.1)=l.map (fun p=>some p.2)->Sub l L
 |[],_=>Sub.nil L
 |(t,av)::l,h=>by
  simp only [List.map_cons,List.cons.injEq] at h
  exact Sub.cons (by rw [<-hM t];exact h.1) (JU hM h.2)
theorem P4 {id:Nat} {c:Code} {k:KB} (hk:(k.p->k.hit=true->Piece P n K (.block id c) k.L0 k.ob0 k.x1 k.L1 k.ob1)/\(k.p->k.hit=false->Piece P n K (.block id c) k.L0 k.ob0 k.x2 k.L2 k.ob2)):fK P n K (.block id c) (P1 k):=by
 intro M O N tm x M' O' N' tm' h
 have fin: ∀{y:AX} {L1:Loc} {ob1:List Ob},(k.p->Piece P n K (.block id c) k.L0 k.ob0 y L1 ob1)->C0 k M O N=true->P3 P n K (.block id c) M O N y (bz L1) (bw ob1) ob1.length:=fun {y L1 ob1} hp ha L ob hM hO=>by
  simp only [C0,Bool.and_eq_true] at ha
  have h1:=JU hM (aP.1 ha.1.1)
  have h2:=aP.1 ha.1.2
  have h3:=aP.1 ha.2
  rw [qA hO] at h2
  subst h2
  exact ⟨⟨L1,ob1,gD _,e7 _⟩,fun df Q hd hq=>wR h1 (hp h3 df Q hd (hq _ _ (gD _) (e7 _)))⟩
 obtain ⟨lo,gd,ok⟩:=tm
 simp only [P1] at h
 split at h
 ·cases h
  refine ⟨⟨[_,_],rfl⟩,fun hok _=> ?_⟩
  grind [TM.low,TM.asks,TM.told,cx]
 ·cases h
  refine ⟨⟨[_,_],rfl⟩,fun hok _=> ?_⟩
  grind [TM.low,TM.asks,TM.told,cx]
 ·cases h
theorem JV {c:Code} {M:Tri AV} {O:Tri Ob} {N:Nat} {x:AX} {M' :Tri AV} {O' :Tri Ob} {N' :Nat} (h:P3 P n K c M O N x M' O' N') (hex: ∃L ob,cw M L/\bV O N ob): ∃L ob,cw M' L/\bV O' N' ob:=by
 obtain ⟨L,ob,h1,h2⟩:=hex
 exact (h L ob h1 h2).1
theorem NS {a b:Code} {ra rb:Tri AV->Tri Ob->Nat->TM->RX} (ha:fK P n K a ra) (hb:fK P n K b rb):fK P n K (.seq a b) (fun M O N tm=>qz rb (ra M O N tm)):=by
 intro M O N tm x M' O' N' tm' h
 cases hr:ra M O N tm with
 |fail=>simp only [hr] at h;cases h
 |ok x1 M1 O1 N1 t1=>
  simp only [hr] at h
  obtain ⟨e1,k1⟩:=ha hr
  cases x1 with
  |normal=>
   obtain ⟨e2,k2⟩:=hb h
   refine ⟨e1.trans e2,fun hok hex L ob hM hO=> ?_⟩
   have h1:=k1 (e2.ok hok) hex
   have h2:=k2 hok (JV h1 hex)
   obtain ⟨⟨L1,ob1,q1,q2⟩,q3⟩:=h1 L ob hM hO
   exact ⟨(h2 L1 ob1 q1 q2).1,fun df Q hd hq=>ia (q3 df _ (hd.imp (fun h=>h) oaj) fun L' ob' hM' hO' =>(h2 L' ob' hM' hO').2 df Q (hd.imp (fun h=>h) oaj) hq)⟩
  |_=>
   cases h
   refine ⟨e1,fun hok hex L ob hM hO=> ?_⟩
   have h1:=k1 hok hex
   exact ⟨(h1 L ob hM hO).1,fun df Q hd hq=>ia ((h1 L ob hM hO).2 df _ (hd.imp (fun h=>h) oaj) fun L' ob' hM' hO' =>hq L' ob' hM' hO')⟩
theorem ER {id:Nat} {c:Code} {ra:Tri AV->Tri Ob->Nat->TM->RX} (ha:fK P n K c ra):fK P n K (.block id c) (fun M O N tm=>oJ id (ra M O N tm)):=by
 intro M O N tm x M' O' N' tm' h
 cases hc:ra M O N tm with
 |fail=>simp only [hc] at h;cases h
 |ok x1 M1 O1 N1 t1=>
  simp only [hc] at h
  obtain ⟨e1,k1⟩:=ha hc
  cases x1 with
  |exit j=>
   simp only [oJ] at h
   cases hj:Nat.beq j id with
   |true=>
    rw [hj] at h
    have:=Nat.eq_of_beq_eq_true hj
    subst this
    simp only [cond_true,RX.ok.injEq] at h
    obtain ⟨rfl,rfl,rfl,rfl,rfl⟩:=h
    refine ⟨e1,fun hok hex L ob hM hO=> ?_⟩
    have h1:=k1 hok hex
    exact ⟨(h1 L ob hM hO).1,fun df Q hd hq=>dJ ((h1 L ob hM hO).2 df _ (hd.imp (fun h=>h) fun e=>e) (by grind [jf]))⟩
   |false=>
    rw [hj] at h
    have hne:=Nat.ne_of_beq_eq_false hj
    simp only [cond_false,RX.ok.injEq] at h
    obtain ⟨rfl,rfl,rfl,rfl,rfl⟩:=h
    refine ⟨e1,fun hok hex L ob hM hO=> ?_⟩
    have h1:=k1 hok hex
    exact ⟨(h1 L ob hM hO).1,fun df Q hd hq=>dJ ((h1 L ob hM hO).2 df _ (hd.imp (fun h=>h) fun e=>e) (by grind [jf]))⟩
  |_=>
   cases h
   refine ⟨e1,fun hok hex L ob hM hO=> ?_⟩
   have h1:=k1 hok hex
   exact ⟨(h1 L ob hM hO).1,fun df Q hd hq=>dJ ((h1 L ob hM hO).2 df _ (hd.imp (fun h=>h) fun e=>e) fun L' ob' hM' hO' =>hq L' ob' hM' hO')⟩
theorem JW {x:Operand} {a b:Code} {ra rb:Tri AV->Tri Ob->Nat->TM->RX} (ha:fK P n K a ra) (hb:fK P n K b rb):fK P n K (.cond x a b) (fun M O N tm=>xK ra rb M O N tm (tev M x)):=by
 intro M O N tm y M' O' N' tm' h
 have hev: ∀L,cw M L->ba L x=tev M x:=fun L hM=>by rw [hM.tev]
 replace h:xK ra rb M O N tm (tev M x)= .ok y M' O' N' tm' :=h
 unfold xK at h
 split at h
 ·rename_i hc
  obtain ⟨e1,k1⟩:=ha h
  refine ⟨e1,fun hok hex L ob hM hO=> ?_⟩
  have h1:=k1 hok hex
  exact ⟨(h1 L ob hM hO).1,fun df Q hd hq=>eY ((hev L hM).trans hc) (fun _=>(h1 L ob hM hO).2 df Q (hd.imp (fun h=>h) oaj) hq) (fun e=>by cases e)⟩
 ·rename_i hc
  obtain ⟨e1,k1⟩:=hb h
  refine ⟨e1,fun hok hex L ob hM hO=> ?_⟩
  have h1:=k1 hok hex
  exact ⟨(h1 L ob hM hO).1,fun df Q hd hq=>eY ((hev L hM).trans hc) (fun e=>by cases e) (fun _=>(h1 L ob hM hO).2 df Q (hd.imp (fun h=>h) oaj) hq)⟩
 ·cases h
theorem nG {M:Tri AV} {L:Loc} (hM:cw M L) {x:Operand} {v:Bool} (h:tev M x=some (.v (.bool v))):cw (P2 M v x) L:=by
 cases x with
 |tmp t=>exact HH hM h
 |_=>exact hM
theorem HU {x:Operand} {a b:Code} {ra rb:Tri AV->Tri Ob->Nat->TM->RX} (ha:fK P n K a ra) (hb:fK P n K b rb):fK P n K (.cond x a b) (fun M O N tm=>Ml x ra rb M O N tm (tev M x)):=by
 intro M O N tm y M' O' N' tm' h
 have hev: ∀L,cw M L->ba L x=tev M x:=fun L hM=>by rw [hM.tev]
 replace h:Ml x ra rb M O N tm (tev M x)= .ok y M' O' N' tm' :=h
 unfold Ml at h
 split at h
 ·rename_i v hc
  split at h
  ·rename_i r hg
   obtain ⟨e1,k1⟩:=ha h
   have e0:Ext tm (tm.told r v):=⟨[v],rfl⟩
   refine ⟨e0.trans e1,fun hok hex L ob hM hO=> ?_⟩
   have hv:cx (tm.told r v).ok=true:=e1.ok hok
   obtain rfl:v=true:=by simp_all [TM.told,cx]
   have hM' :=nG hM hc
   have h1:=k1 hok ⟨L,ob,hM',hO⟩
   exact ⟨(h1 L ob hM' hO).1,fun df Q hd hq=>eY ((hev L hM).trans hc) (fun _=>(h1 L ob hM' hO).2 df Q (hd.imp (fun h=>h) oaj) hq) (fun e=>by cases e)⟩
  ·rename_i r hg
   obtain ⟨e1,k1⟩:=hb h
   have e0:Ext tm (tm.told r (!v)):=⟨[!v],rfl⟩
   refine ⟨e0.trans e1,fun hok hex L ob hM hO=> ?_⟩
   have hv:cx (tm.told r (!v)).ok=true:=e1.ok hok
   obtain rfl:v=false:=by simp_all [TM.told,cx]
   have hM' :=nG hM hc
   have h1:=k1 hok ⟨L,ob,hM',hO⟩
   exact ⟨(h1 L ob hM' hO).1,fun df Q hd hq=>eY ((hev L hM).trans hc) (fun e=>by cases e) (fun _=>(h1 L ob hM' hO).2 df Q (hd.imp (fun h=>h) oaj) hq)⟩
  ·rw [<-hc] at h
   exact JW (x:=x) ha hb h
 ·cases h
theorem nH (hcf:ct P callf) (hm:P.follows .mixedOrders=true) {kb:KBs}: ∀(c:Code),oR P n K kb c->fK P n K c (runK P n callf pu lf kb c)
 | .skip,_=>fun h=>dg (pu:=pu) (lf:=lf) hcf hm .skip h
 | .label l,_=>fun h=>dg (pu:=pu) (lf:=lf) hcf hm (.label l) h
 | .ret,_=>fun h=>dg (pu:=pu) (lf:=lf) hcf hm .ret h
 | .exit id,_=>fun h=>dg (pu:=pu) (lf:=lf) hcf hm (.exit id) h
 | .region id ops draw,_=>fun h=>dg (pu:=pu) (lf:=lf) hcf hm (.region id ops draw) h
 | .loop c,_=>fun h=>dg (pu:=pu) (lf:=lf) hcf hm (.loop c) h
 | .scope c,_=>fun h=>dg (pu:=pu) (lf:=lf) hcf hm (.scope c) h
 | .goto _,_=>fun h=>by cases h
 | .rangeFunc g ps a b,_=>fun h=>dg (pu:=pu) (lf:=lf) hcf hm (.rangeFunc g ps a b) h
 | .refuse _,_=>fun h=>by cases h
 | .seq a b,hk=>fun h=>NS (nH hcf hm a hk.1) (nH hcf hm b hk.2) h
 | .cond x a b,hk=>fun h=>HU (x:=x) (nH hcf hm a hk.1) (nH hcf hm b hk.2) h
 | .block id c,hk=>fun h=>by
  have h' :=show kbR id _ _ _ _ (runK P n callf pu lf kb c _ _ _ _) (kb id)= .ok _ _ _ _ _ from h
  simp only [oR] at hk
  cases hi:kb id with
  |none=>
   rw [hi] at h' hk
   exact ER (nH hcf hm c hk) h'
  |some k=>
   rw [hi] at h' hk
   exact P4 hk h'
structure HV (P:Program) (n K:Nat) (kb:KBs) (c:Code):Prop where
 ok:oR P n K kb c
def orC (a b:Option Code):Option Code:=match a with
 |some c=>some c
 |none=>b
noncomputable def P5 (id:Nat) (c:Code):Option Code:=
 Code.rec (motive:=fun _=>Option Code) none (fun _ _ _=>none) (fun _ _ a b=>orC a b) (fun _ _ _ a b=>orC a b)
  (fun j c a=>cond (Nat.beq j id) (some c) a) (fun _ a=>a) (fun _ _ _ _ a b=>orC a b) (fun _=>none) (fun _ a=>a) (fun _=>none) (fun _=>none) none (fun _=>none) c
noncomputable def bP (id:Nat) (c:Code):Code:=match P5 id c with
 |some (.loop b)=>b
 |_=> .skip
noncomputable def dp (ids:List Nat) (c:Code):List (Nat×Code):=
 Code.rec (motive:=fun _=>List (Nat×Code)) [] (fun _ _ _=>[]) (fun _ _ a b=>a++b) (fun _ _ _ a b=>a++b)
  (fun j c a=>cond (ids.any (Nat.beq j)) [(j,c)] a) (fun _ a=>a) (fun _ _ _ _ _ _=>[]) (fun _=>[]) (fun _ a=>a) (fun _=>[]) (fun _=>[]) [] (fun _=>[]) c
def cQ (P:Program) (n K id:Nat) (c:Code) (k:KB):Prop:=(k.p->k.hit=true->Piece P n K (.block id c) k.L0 k.ob0 k.x1 k.L1 k.ob1)/\(k.p->k.hit=false->Piece P n K (.block id c) k.L0 k.ob0 k.x2 k.L2 k.ob2)
def kbL:List (Nat×KB)->KBs
 |[],_=>none
 |(i,k)::l,j=>cond (Nat.beq j i) (some k) (kbL l j)
theorem Mm: ∀(l:List (Nat×KB)) (j:Nat),(kbL l j).isSome=(l.map (·.1)).any (Nat.beq j)
 |[],_=>rfl
 |(i,k)::l,j=>by
  simp only [kbL,List.map_cons,List.any_cons]
  cases Nat.beq j i with
  |true=>rfl
  |false=>simpa using Mm l j
def oc (P:Program) (n K:Nat) (l:List (Nat×KB)):List (Nat×Code)->Prop
 |[]=>True
 |(id,c)::r=>(match kbL l id with
  |some k=>cQ P n K id c k
  |none=>True)/\oc P n K l r
theorem bj {l:List (Nat×KB)}:oc P n K l []:=trivial
theorem aT {l:List (Nat×KB)} {id:Nat} {c:Code} {r:List (Nat×Code)} {k:KB} (h:cQ P n K id c k) (hk:kbL l id=some k) (t:oc P n K l r):oc P n K l ((id,c)::r):=⟨by rw [hk];exact h,t⟩
theorem nI {l:List (Nat×KB)}: ∀{a b:List (Nat×Code)},oc P n K l (a++b)->oc P n K l a/\oc P n K l b
 |[],_,h=>⟨trivial,h⟩
 |(_,_)::_,_,h=>⟨⟨h.1,(nI h.2).1⟩,(nI h.2).2⟩
theorem jQ {l:List (Nat×KB)}: ∀c:Code,oc P n K l (dp (l.map (·.1)) c)->oR P n K (kbL l) c
 | .skip,_=>trivial
 | .label _,_=>trivial
 | .ret,_=>trivial
 | .exit _,_=>trivial
 | .region _ _ _,_=>trivial
 | .loop c,h=>jQ (l:=l) c h
 | .scope c,h=>jQ (l:=l) c h
 | .goto _,_=>trivial
 | .rangeFunc _ _ _ _,_=>trivial
 | .refuse _,_=>trivial
 | .seq a b,h=>by
  have:=nI (a:=dp (l.map (·.1)) a) (b:=dp (l.map (·.1)) b) h
  exact ⟨jQ a this.1,jQ b this.2⟩
 | .cond _ a b,h=>by
  have:=nI (a:=dp (l.map (·.1)) a) (b:=dp (l.map (·.1)) b) h
  exact ⟨jQ a this.1,jQ b this.2⟩
 | .block id c,h=>by
  replace h:oc P n K l (cond ((l.map (·.1)).any (Nat.beq id)) [(id,c)] (dp (l.map (·.1)) c)):=h
  rw [<-Mm] at h
  simp only [oR]
  cases hi:kbL l id with
  |none=>rw [hi] at h;exact jQ c h
  |some k=>
   rw [hi] at h
   replace h:=h.1
   rw [hi] at h
   exact h
theorem bK {l:List (Nat×KB)} {ids:List Nat} {c:Code} {B:List (Nat×Code)} (h:dp ids c=B) (k:oc P n K l B) (hi:l.map (·.1)=ids):HV P n K (kbL l) c:=⟨jQ c (by rw [hi,h];exact k)⟩
theorem gg: ∀c:Code,oR P n K (kbL []) c
 | .skip=>trivial
 | .label _=>trivial
 | .ret=>trivial
 | .exit _=>trivial
 | .region _ _ _=>trivial
 | .loop c=>gg c
 | .scope c=>gg c
 | .goto _=>trivial
 | .rangeFunc _ _ _ _=>trivial
 | .refuse _=>trivial
 | .seq a b=>⟨gg a,gg b⟩
 | .cond _ a b=>⟨gg a,gg b⟩
 | .block _ c=>gg c
theorem az (c:Code):HV P n K (kbL []) c:=⟨gg c⟩
theorem de (hcf:ct P callf) (hm:P.follows .mixedOrders=true) {kb:KBs} {c:Code} (h:HV P n K kb c):fK P n K c (runK P n callf pu lf kb c):=nH hcf hm c h.ok
theorem eb {lo:Nat} {c:Code} {run:Tri AV->Tri Ob->Nat->TM->RX} (hr:fK P n K c run) {L L' :Loc} {ob ob' :List Ob} {x:AX} {sel:List Nat} {gd:List Gi} {ok:List Bool} {N' :Nat} {SL:List (Option AV)} {SO:List (Option Ob)}
  (h:gJ (L'.map (·.1)) sel (run (bz L) (bw ob) ob.length ⟨lo,gd,[]⟩)=some (x,SL,SO,N',ok)) (hok:cx ok=true)
  (hx:eT x=true) (hn:lB sel=true) (hK:(range K).all (fun i=>sel[i]? ==some i)=true) (h2:l9 (b0 sel N') L' =SL) (h3:n9 (b0 sel N') SO ob'):Piece P n K c L ob x L' ob' :=by
 intro df Q hdo hq
 cases hc:run (bz L) (bw ob) ob.length ⟨lo,gd,[]⟩ with
 |fail=>rw [hc] at h;cases h
 |ok x1 M1 O1 N1 t1=>
  rw [hc] at h
  simp only [gJ,Option.some.injEq,Prod.mk.injEq] at h
  obtain ⟨rfl,q2,q3,rfl,rfl⟩:=h
  have hrun:=(hr hc).2 hok ⟨L,ob,gD L,e7 ob⟩
  refine sG (((hrun L ob (gD L) (e7 ob)).2 df _ hdo) fun L1 ob1 hM hO=> ?_)
  have hl1:ob1.length=N1:=hO.1
  rw [<-q3] at h3
  obtain ⟨t1,t2⟩:=sH h3
  refine ⟨L',ob',sel,⟨iz hn,by simpa using t1,fun i s X hi hX=> ?_,fun i hi=> ?_,fun t av e=> ?_⟩,hx,hq⟩
  ·obtain ⟨Y,k1,k2⟩:=t2 i X hX
   rw [List.getElem?_map,hi] at k1
   simp only [Option.map_some,Option.some.injEq] at k1
   exact ⟨Y,by rw [<-hO.2];exact k1,by rw [hl1];exact k2⟩
  ·simp_all
  ·rw [<-hM t,hl1]
   grind [kF]
theorem x5 {lo:Nat} {fn:Func} {R:qd->List Ob->Prop} {c:Code} {run:Tri AV->Tri Ob->Nat->TM->RX} (hr:fK P fn.ntmps K c run) {L:Loc} {ob obs:List Ob} {M:Tri AV} {O:Tri Ob} {N:Nat} (hM:cw M L) (hO:bV O N ob) {r:AV} {gd:List Gi} {SO:List (Option Ob)} {ok:List Bool}
  (h:qD P fn.results.toList obs.length (run M O N ⟨lo,gd,[]⟩)=some (r,SO,ok)) (hok:cx ok=true) (h3:obs.map some=SO) (hR: ∀xs,R (.ret r) (obs++xs)):Fin P fn K R c L ob:=by
 cases hc:run M O N ⟨lo,gd,[]⟩ with
 |fail=>rw [hc] at h;simp [qD] at h
 |ok x3 M3 O3 N3 t3=>
  rw [hc] at h
  obtain ⟨e3,hrun3⟩:=hr hc
  have aux: ∀avs,lA P M3 O3 fn.results.toList=some avs->gO avs=r->(range obs.length).map O3.get=SO->t3.ok=ok-> ∀L3 ob3,cw M3 L3->bV O3 N3 ob3-> ∃avs,nU P L3 ob3 fn.results.toList avs/\R (.ret (gO avs)) ob3:=fun avs ha hb hc _ L3 ob3 hM3 hO3=>by
   obtain ⟨xs,e⟩:=sF rfl (hc.trans h3.symm) hO3
   exact ⟨avs,jO hM3 hO3 ha,by rw [hb,e];exact hR xs⟩
  have fin:ok=t3.ok/\ ∀L3 ob3,cw M3 L3->bV O3 N3 ob3->LO P fn R x3 L3 ob3:=by
   cases x3 with
   |normal=>
    simp only [qD] at h
    split at h
    ·rename_i avs ha
     simp only [Option.some.injEq,Prod.mk.injEq] at h
     exact ⟨h.2.2.symm,aux avs ha h.1 h.2.1 h.2.2⟩
    ·cases h
   |ret=>
    simp only [qD] at h
    split at h
    ·rename_i avs ha
     simp only [Option.some.injEq,Prod.mk.injEq] at h
     exact ⟨h.2.2.symm,aux avs ha h.1 h.2.1 h.2.2⟩
    ·cases h
   |_=>simp [qD] at h
  obtain ⟨rfl,k3⟩:=fin
  exact (((hrun3 hok ⟨L,ob,hM,hO⟩) _ _ hM hO).2 none _ (.inl rfl)) fun L3 ob3 hM3 hO3=>k3 L3 ob3 hM3 hO3
theorem ES {f:FuncId} {fn:Func} {body:Code} {args:List AV} {r:AV} {l:List (Nat×KB)} {gd:List Gi} {ok:List Bool} (hcf:ct P callf) (hm:P.follows .mixedOrders=true) (hf:P.funcs[f]? =some fn) (hname:(fn.name== "runtime.NumGoroutine")=false) (hb:fn.body=some body) (hn:args.length<=fn.ntmps)
  (hk:HV P fn.ntmps 0 (kbL l) body) (h:qD P fn.results.toList 0 (runK P fn.ntmps callf pu lf (kbL l) body (l8 0 args .e) .e 0 ⟨0,gd,[]⟩)=some (r,[],ok)) (hok:cx ok=true) (hu:r.und 0=true):bg P f args [] [] r []:=
 jo hf hname hb hn (Nat.le_refl _) hu rfl (x5 (obs:=[]) (de hcf hm hk) (fa args) bV.nil h hok rfl fun xs=>⟨rfl,xs,rfl⟩)
def oS (id:Nat):AX->AX
 | .exit j=>cond (Nat.beq j id) .normal (.exit j)
 |x=>x
theorem qH {df:Option Nat} {id:Nat} {x:AX} {Q:dI} {L:Loc} {ob:List Ob} (h:Q (oS id x) L ob):jf id Q x L ob:=by
 cases x with
 |exit j=>
  grind [oS,jf,Nat.eq_of_beq_eq_true,Nat.ne_of_beq_eq_false]
 |_=>exact h
theorem gh {id:Nat} {c:Code} {ι:Type} {xr:AX} {Lr:Loc} {obr:List Ob} (L:ι->Loc) (Bs:ι->List Ob) (I:ι->Prop) (μ:ι->Nat) (x:ι) (hx:I x) (hne:xr≠ .normal)
  (round: ∀x,I x->(∃y,I y/\μ y<μ x/\Piece P n K c (L x) (Bs x) .normal (L y) (Bs y))\/Piece P n K c (L x) (Bs x) xr Lr obr):Piece P n K (.block id (.loop c)) (L x) (Bs x) (oS id xr) Lr obr:=by
 intro df Q hd hq
 have hd' :jG df c:=hd.imp (fun e=>e) fun e=>by simpa only [Code.inR] using e
 refine dJ (CY hd' L Bs I μ (fun y hy=>(round y hy).imp (fun e=>e) fun k=>k df _ hd' ?_) x hx)
 have:=qH (df:=df) (id:=id) (x:=xr) (Q:=Q) hq
 cases xr with
 |normal=>exact absurd rfl hne
 |_=>exact this
def cX (n:Nat) (t:Nat->Bool):Bool:=(range n).any t
theorem ee {n:Nat} {t:Nat->Bool}:cX n t=true↔ ∃i,i<n/\t i=true:=by simp [cX]
theorem bL {n:Nat} {t:Nat->Bool}:cX n t=false↔ ∀i,i<n->t i=false:=by simp [cX]
abbrev bT:Gi:= .b true
abbrev bF:Gi:= .b false
def uTT (n:Nat) (l:List Gi):List Gi:=Nat.rec l (fun _ r=>bT::r) n
def uFF (n:Nat) (l:List Gi):List Gi:=Nat.rec l (fun _ r=>bF::r) n
def nm (L:Loc):List (Option AV):=L.map fun p=>some p.2
theorem a0:cx []=true:=rfl
theorem a1 {l:List Bool} (h:cx l=true):cx (true::l)=true:=h
theorem kbT (k:KB) (hp:k.p):(dec (nm k.L0=nm k.L0)&&dec (k.ob0=k.ob0)&&dec k.p)=true:=by grind [aP]
theorem eV {α:Type} (x:α):dec (x=x)=true:=aP.2 rfl
theorem dwr {z:Int} (h0: -9223372036854775808<=z) (h1:z<=9223372036854775807):dec (IntKind.i64.wrap z=z)=true:=aP.2 (wrap_i64 h0 h1)
theorem gM {α:Type} [Inhabited α] (f:α->List AV) {l:List α} {i:Nat} (h:i<l.length):dec ((l.map f)[i]? =some (f (ae l i)))=true:=qF h
theorem pvA (l:List AV) (h:ah l=true):(ah l&&true&&true)=true:=by rw [h];rfl
open Classical in
noncomputable def inv {α:Type} [Inhabited α] (f:α->List AV) (c:List AV):α:=if h: ∃x,f x=c then h.choose else default
theorem ft {α:Type} [Inhabited α] {l:List α} {i:Nat} (h:i<l.length):ae l i∈l:=List.mem_of_getElem? (eM h)
theorem aN (k:Nat) {l:List Bool} (h:cx l=true):cx (replicate k true++l)=true:=by
 induction k with
 |zero=>exact h
 |succ k ih=>exact ih
theorem n2 {x:Bool} (h:x=true):(!!x)=true:=by rw [h];rfl
theorem n3 {x:Bool} (h:x=false):(!!!x)=true:=by rw [h];rfl
theorem minA {ts:Array TypeId} {ty:TypeId} {fl:Array Bool} (a b:Int):dec (CJ P .min ts ty fl [.int .i64 a,.int .i64 b] (.int .i64 (min a b)))=true:=by
 have e:(if b<a then b else a)=min a b:=by omega
 refine aP.2 ?_
 unfold CJ
 simp only [invoke,builtin,Builtin.min_,Builtin.min2,List.foldlM,e]
 rfl
theorem maxA {ts:Array TypeId} {ty:TypeId} {fl:Array Bool} (a b:Int):dec (CJ P .max ts ty fl [.int .i64 a,.int .i64 b] (.int .i64 (max a b)))=true:=by
 have e:(if a<b then b else a)=max a b:=by omega
 refine aP.2 ?_
 unfold CJ
 simp only [invoke,builtin,Builtin.max_,Builtin.max2,List.foldlM,e]
 rfl
theorem mC (b:Bool):b=true\/b=false:=by cases b<;>simp
theorem cq {x:Bool} (h:x=true):(!x)=false:=by rw [h];rfl
theorem orT {x y:Bool} (h:x=true):(x||y)=true:=by rw [h];rfl
theorem orF {x y v:Bool} (h:x=false) (k:y=v):(x||y)=v:=by rw [h,k];rfl
theorem aD {x y v:Bool} (h:x=true) (k:y=v):(x&&y)=v:=by rw [h,k];rfl
theorem bf {x y:Bool} (h:x=false):(x&&y)=false:=by rw [h];rfl
theorem cdT {α:Type} {x:Bool} {a b v:α} (h:x=true) (k:a=v):(bif x then a else b)=v:=by rw [h,k];rfl
theorem cdF {α:Type} {x:Bool} {a b v:α} (h:x=false) (k:b=v):(bif x then a else b)=v:=by rw [h,k];rfl
theorem od {i n:Nat} (h:i<n) (hn:n<=9223372036854775807):dec (IntKind.i64.wrap ((i+1:Nat):Int)=((i+1:Nat):Int))=true:=aP.2 (wrap_i64 oab oab)
def b4 (n:Nat) (t:Nat->Bool):Nat:=((range n).find? t).getD n
theorem gY {n:Nat} {t:Nat->Bool} (h:cX n t=true):b4 n t<n/\t (b4 n t)=true/\ ∀j,j<b4 n t->t j=false:=by
 obtain ⟨j,hj,ht⟩:=ee.1 h
 unfold b4
 cases hf:(range n).find? t with
 |none=>simp_all
 |some x=>
  simp_all
end
inductive GT where
 |nil
 |r (g:List Gi) (k:GT)
 |a (a b:GT)
 |br (a b:GT)
 |yes (a:GT)
 |no (a:GT)
 |more (a:GT)
 |pick (j:Nat)
abbrev VK:=GT->AX->Tri AV->Tri Ob->Nat->Prop
abbrev VC:=Tri AV->Tri Ob->Nat->VK->GT->Prop
def vkR (k:VK) (t:GT):RX->Prop
 | .ok x M O N tm=>cx tm.ok=true/\k t x M O N
 | .fail=>False
noncomputable def fL (run:Tri AV->Tri Ob->Nat->TM->RX):VC:=fun M O N k t=>
 GT.rec (motive:=fun _=>Prop) (vkR k .nil (run M O N ⟨0,[],[]⟩)) (fun g r _=>vkR k r (run M O N ⟨0,g,[]⟩)) (fun _ _ a b=>a\/b) (fun _ _ _ _=>False) (fun _ _=>False) (fun _ _=>False) (fun _ _=>False) (fun _=>False) t
def litV (A B:Prop):Bool->Prop
 |true=>A
 |false=>B
def brV (A B:GT->Prop) (A1 B1:Prop) (v:Bool):GT->Prop
 | .br ta tb=>(v=true/\A ta)\/(v=false/\B tb)
 | .yes t=>v=true/\A t
 | .no t=>v=false/\B t
 |_=>litV A1 B1 v
noncomputable def Mn (x:Operand) (a b:VC) (M:Tri AV) (O:Tri Ob) (N:Nat) (k:VK) (t:GT):Option AV->Prop
 |some (.v (.bool v))=>brV (a (P2 M true x) O N k) (b (P2 M false x) O N k) (a M O N k t) (b M O N k t) v t
 |_=>False
noncomputable def kbV (q:KB):VC:=fun M O N k t=>C0 q M O N=true/\
 brV (fun t=>k t q.x1 (bz q.L1) (bw q.ob1) q.ob1.length) (fun t=>k t q.x2 (bz q.L2) (bw q.ob2) q.ob2.length) (k t q.x1 (bz q.L1) (bw q.ob1) q.ob1.length) (k t q.x2 (bz q.L2) (bw q.ob2) q.ob2.length) q.hit t
def blkK (id:Nat) (k:VK):VK:=fun t x M O N=>k t (oS id x) M O N
def seqK (b:VC) (k:VK):VK:=fun t x M O N=>match x with
 | .normal=>b M O N k t
 | .ret=>k t .ret M O N
 | .exit j=>k t (.exit j) M O N
 | .goto l=>k t (.goto l) M O N
 | .panic av=>k t (.panic av) M O N
noncomputable def unrV (a:VC) (k:VK) (j:Nat):Tri AV->Tri Ob->Nat->GT->Prop:=
 Nat.rec (motive:=fun _=>Tri AV->Tri Ob->Nat->GT->Prop) (fun _ _ _ _=>False) (fun _ ih M O N t=>a M O N (fun t' x M' O' N' =>match x with
  | .normal=>ih M' O' N' t'
  | .ret=>k t' .ret M' O' N'
  | .exit j=>k t' (.exit j) M' O' N'
  | .goto l=>k t' (.goto l) M' O' N'
  | .panic av=>k t' (.panic av) M' O' N') t) j
noncomputable def WS (run:Tri AV->Tri Ob->Nat->TM->RX) (a:VC):VC:=fun M O N k t=>match t with
 | .more t' =>unrV a k 12 M O N t'
 |t=>fL run M O N k t
def WT (k:VK):VK:=fun t x M O N=>match x with
 | .normal=>k t .normal M O N
 | .ret=>k t .ret M O N
 | .exit j=>k t (.exit j) M O N
 | .goto _=>False
 | .panic av=>k t (.panic av) M O N
noncomputable def P6 (run:Tri AV->Tri Ob->Nat->TM->RX) (a:VC):VC:=fun M O N k t=>match t with
 | .more t' =>a M O N (WT k) t'
 |t=>fL run M O N k t
noncomputable def P7 (id:Nat) (a:VC):Option KB->VC
 |some q=>kbV q
 |none=>fun M O N k t=>a M O N (blkK id k) t
noncomputable def vcC (P:Program) (n:Nat) (callf:cI) (pu:FuncId->Bool) (lf:Nat) (kb:KBs) (c:Code):VC:=
 Code.rec (motive:=fun _=>VC)
  (fun M O N k t=>k t .normal M O N)
  (fun _ ops draw=>fL fun M O N tm=>EA ops.toList draw (fV P n callf pu ops.toList ops.toList M O N tm))
  (fun _ _ a b M O N k t=>a M O N (seqK b k) t)
  (fun x _ _ a b M O N k t=>Mn x a b M O N k t (tev M x))
  (fun id _ a=>P7 id a (kb id))
  (fun c a=>WS (fun M O N tm=>eu P n callf pu lf (.loop c) M O N tm) a)
  (fun g ps a b _ _=>fL fun M O N tm=>eu P n callf pu lf (.rangeFunc g ps a b) M O N tm)
  (fun id M O N k t=>k t (.exit id) M O N)
  (fun c a=>P6 (fun M O N tm=>eu P n callf pu lf (.scope c) M O N tm) a)
  (fun _ M O N k t=>k t .normal M O N)
  (fun _ _ _ _ _ _=>False)
  (fun M O N k t=>k t .ret M O N)
  (fun _ _ _ _ _ _=>False) c
section
variable {P:Program} {n K:Nat} {callf:cI} {pu:FuncId->Bool} {lf:Nat}
structure gZ (P:Program) (n K:Nat) (c:Code) (V:VC):Prop where
 ok: ∀{M:Tri AV} {O:Tri Ob} {N:Nat} {k:VK} {t:GT},V M O N k t-> ∀{L:Loc} {ob:List Ob},cw M L->bV O N ob-> ∀{df:Option Nat} {Q:dI},jG df c->
 (∀{t' :GT} {x:AX} {M' :Tri AV} {O' :Tri Ob} {N' :Nat} {L' :Loc} {ob' :List Ob},k t' x M' O' N' ->cw M' L' ->bV O' N' ob' ->Q x L' ob')->awp df P n K [] c Q L ob
theorem x6 {c:Code} {run:Tri AV->Tri Ob->Nat->TM->RX} (hr:fK P n K c run) {M:Tri AV} {O:Tri Ob} {N:Nat} {k:VK} {t:GT} {g:List Gi} (h:vkR k t (run M O N ⟨0,g,[]⟩)) {L:Loc} {ob:List Ob} (hM:cw M L) (hO:bV O N ob) {df:Option Nat} {Q:dI} (hd:jG df c)
  (hq: ∀{t' :GT} {x:AX} {M' :Tri AV} {O' :Tri Ob} {N' :Nat} {L' :Loc} {ob' :List Ob},k t' x M' O' N' ->cw M' L' ->bV O' N' ob' ->Q x L' ob'):awp df P n K [] c Q L ob:=by
 cases hc:run M O N ⟨0,g,[]⟩ with
 |fail=>rw [hc] at h;exact h.elim
 |ok x M' O' N' tm=>
  rw [hc] at h
  exact (((hr hc).2 h.1 ⟨L,ob,hM,hO⟩) L ob hM hO).2 df Q hd fun L' ob' h1 h2=>hq h.2 h1 h2
theorem qI {c:Code} {run:Tri AV->Tri Ob->Nat->TM->RX} (hr:fK P n K c run):gZ P n K c (fL run):=by
 constructor
 intro M O N k t h L ob hM hO df Q hd hq
 induction t with
 |nil=>exact x6 hr h hM hO hd hq
 |r g r _=>exact x6 hr h hM hO hd hq
 |a a b ha hb=>exact h.elim ha hb
 |_=>exact h.elim
theorem Mo {A B:Prop} {v:Bool} (h:litV A B v):(v=true/\A)\/(v=false/\B):=by
 cases v with
 |true=>exact .inl ⟨rfl,h⟩
 |false=>exact .inr ⟨rfl,h⟩
theorem P8 {x:Operand} {a b:Code} {ra rb:VC} (ha:gZ P n K a ra) (hb:gZ P n K b rb):gZ P n K (.cond x a b) (fun M O N k t=>Mn x ra rb M O N k t (tev M x)):=by
 constructor
 intro M O N k t h L ob hM hO df Q hd hq
 have hev:ba L x=tev M x:=by rw [hM.tev]
 have d1:jG df a:=hd.imp (fun h=>h) oaj
 have d2:jG df b:=hd.imp (fun h=>h) oaj
 replace h:Mn x ra rb M O N k t (tev M x):=h
 unfold Mn at h
 split at h
 ·rename_i v hc
  cases t with
  |br ta tb=>
   rcases h with ⟨rfl,h⟩|⟨rfl,h⟩
   ·exact eY (hev.trans hc) (fun _=>ha.ok h (nG hM hc) hO d1 hq) (fun e=>by cases e)
   ·exact eY (hev.trans hc) (fun e=>by cases e) (fun _=>hb.ok h (nG hM hc) hO d2 hq)
  |yes t=>
   obtain ⟨rfl,h⟩:=h
   exact eY (hev.trans hc) (fun _=>ha.ok h (nG hM hc) hO d1 hq) (fun e=>by cases e)
  |no t=>
   obtain ⟨rfl,h⟩:=h
   exact eY (hev.trans hc) (fun e=>by cases e) (fun _=>hb.ok h (nG hM hc) hO d2 hq)
  |_=>
   rcases Mo h with ⟨rfl,h⟩|⟨rfl,h⟩
   ·exact eY (hev.trans hc) (fun _=>ha.ok h hM hO d1 hq) (fun e=>by cases e)
   ·exact eY (hev.trans hc) (fun e=>by cases e) (fun _=>hb.ok h hM hO d2 hq)
 ·exact h.elim
theorem X1 {id:Nat} {c:Code} {q:KB} (hk:(q.p->q.hit=true->Piece P n K (.block id c) q.L0 q.ob0 q.x1 q.L1 q.ob1)/\(q.p->q.hit=false->Piece P n K (.block id c) q.L0 q.ob0 q.x2 q.L2 q.ob2)):gZ P n K (.block id c) (kbV q):=by
 constructor
 intro M O N k t h L ob hM hO df Q hd hq
 obtain ⟨ha,h⟩:=h
 simp only [C0,Bool.and_eq_true] at ha
 have h1:=JU hM (aP.1 ha.1.1)
 have h2:=aP.1 ha.1.2
 have h3:=aP.1 ha.2
 rw [qA hO] at h2
 subst h2
 have fin: ∀{y:AX} {L1:Loc} {ob1:List Ob} {t' :GT},Piece P n K (.block id c) q.L0 q.ob0 y L1 ob1->k t' y (bz L1) (bw ob1) ob1.length->awp df P n K [] (.block id c) Q L q.ob0:=fun {y L1 ob1 t'} hp hk=>wR h1 (hp df Q hd (hq hk (gD _) (e7 _)))
 cases t with
 |br ta tb=>
  rcases h with ⟨e,h⟩|⟨e,h⟩
  ·exact fin (hk.1 h3 e) h
  ·exact fin (hk.2 h3 e) h
 |yes t=>exact fin (hk.1 h3 h.1) h.2
 |no t=>exact fin (hk.2 h3 h.1) h.2
 |_=>
  rcases Mo h with ⟨e,h⟩|⟨e,h⟩
  ·exact fin (hk.1 h3 e) h
  ·exact fin (hk.2 h3 e) h
theorem Vg {a b:Code} {ra rb:VC} (ha:gZ P n K a ra) (hb:gZ P n K b rb):gZ P n K (.seq a b) (fun M O N k t=>ra M O N (seqK rb k) t):=by
 constructor
 intro M O N k t h L ob hM hO df Q hd hq
 have d1:jG df a:=hd.imp (fun h=>h) oaj
 have d2:jG df b:=hd.imp (fun h=>h) oaj
 refine ia (ha.ok h hM hO d1 fun {t' x M' O' N' L' ob'} h1 hM' hO' => ?_)
 cases x with
 |normal=>exact hb.ok h1 hM' hO' d2 hq
 |_=>exact hq h1 hM' hO'
theorem NT {id:Nat} {c:Code} {ra:VC} (ha:gZ P n K c ra):gZ P n K (.block id c) (fun M O N k t=>ra M O N (blkK id k) t):=by
 constructor
 intro M O N k t h L ob hM hO df Q hd hq
 refine dJ (ha.ok h hM hO (hd.imp (fun h=>h) fun e=>e) fun {t' x M' O' N' L' ob'} h1 hM' hO' =>qH (df:=df) (hq h1 hM' hO'))
def Mp (df:Option Nat) (P:Program) (n K:Nat) (c:Code) (Q:dI):Nat->Loc->List Ob->Prop
 |0,_,_=>False
 |j+1,L,ob=>awp df P n K [] c (G9 (Mp df P n K c Q j) Q) L ob
theorem JX {df:Option Nat} {c:Code} {Q:dI} {j:Nat} {L:Loc} {ob:List Ob} (h:Mp df P n K c Q j L ob):awp df P n K [] (.loop c) Q L ob:=by
 refine mf (ι:=Nat×Loc×List Ob) (fun i=>i.2.1) (fun i=>i.2.2) (fun i=>Mp df P n K c Q i.1 i.2.1 i.2.2) (fun i=>i.1) (j,L,ob) h (Sub.refl _) rfl fun i hi=> ?_
 obtain ⟨j,L,ob⟩:=i
 cases j with
 |zero=>exact hi.elim
 |succ j=>
  refine wQ hi fun x L' ob' q=> ?_
  cases x with
  |normal=>exact ⟨(j,L',ob'),q,Nat.lt_succ_self _,Sub.refl _,rfl⟩
  |_=>exact q
theorem Mq {c:Code} {a:VC} (ha:gZ P n K c a) {df:Option Nat} {Q:dI} (hd:jG df c) {k:VK} (hq: ∀{t' :GT} {x:AX} {M' :Tri AV} {O' :Tri Ob} {N' :Nat} {L' :Loc} {ob' :List Ob},k t' x M' O' N' ->cw M' L' ->bV O' N' ob' ->Q x L' ob'):
  ∀(j:Nat) {M:Tri AV} {O:Tri Ob} {N:Nat} {t:GT} {L:Loc} {ob:List Ob},unrV a k j M O N t->cw M L->bV O N ob->Mp df P n K c Q j L ob
 |0,_,_,_,_,_,_,h,_,_=>h.elim
 |j+1,M,O,N,t,L,ob,h,hM,hO=>by
  refine ha.ok (show a M O N _ t from h) hM hO hd fun {t' x M' O' N' L' ob'} h1 hM' hO' => ?_
  cases x with
  |normal=>exact Mq (k:=k) ha hd (fun q q1 q2=>hq q q1 q2) j (show unrV a k j M' O' N' t' from h1) hM' hO'
  |_=>exact hq h1 hM' hO'
theorem P9 {c:Code} {run:Tri AV->Tri Ob->Nat->TM->RX} {a:VC} (hr:fK P n K (.loop c) run) (ha:gZ P n K c a):gZ P n K (.loop c) (WS run a):=by
 constructor
 intro M O N k t h L ob hM hO df Q hd hq
 have hs:gZ P n K (.loop c) (fL run):=qI (run:=run) hr
 cases t with
 |more t' =>exact JX (Mq ha (hd.imp (fun e=>e) fun e=>by simpa only [Code.inR] using e) (k:=k) (fun q q1 q2=>hq q q1 q2) 12 (show unrV a k 12 M O N t' from h) hM hO)
 |nil=>exact hs.ok (show fL run M O N k .nil from h) hM hO hd hq
 |r g r=>exact hs.ok (show fL run M O N k (.r g r) from h) hM hO hd hq
 |a a b=>exact hs.ok (show fL run M O N k (.a a b) from h) hM hO hd hq
 |br a b=>exact hs.ok (show fL run M O N k (.br a b) from h) hM hO hd hq
 |yes a=>exact hs.ok (show fL run M O N k (.yes a) from h) hM hO hd hq
 |no a=>exact hs.ok (show fL run M O N k (.no a) from h) hM hO hd hq
 |pick j=>exact hs.ok (show fL run M O N k (.pick j) from h) hM hO hd hq
theorem NU {c:Code} {run:Tri AV->Tri Ob->Nat->TM->RX} {a:VC} (hr:fK P n K (.scope c) run) (ha:gZ P n K c a):gZ P n K (.scope c) (P6 run a):=by
 constructor
 intro M O N k t h L ob hM hO df Q hd hq
 have hs:gZ P n K (.scope c) (fL run):=qI (run:=run) hr
 cases t with
 |more t' =>
  have hdf:df=none:=hd.elim id fun e=>by simp [Code.inR] at e
  subst hdf
  refine CT 0 (ha.ok (show a M O N (WT k) t' from h) hM hO (.inl rfl) fun {t2 x M' O' N' L' ob'} h1 hM' hO' => ?_)
  cases x with
  |goto l=>exact h1.elim
  |normal=>exact hq (t' :=t2) (show k t2 .normal M' O' N' from h1) hM' hO'
  |ret=>exact hq (t' :=t2) (show k t2 .ret M' O' N' from h1) hM' hO'
  |exit j=>exact hq (t' :=t2) (show k t2 (.exit j) M' O' N' from h1) hM' hO'
  |panic av=>exact hq (t' :=t2) (show k t2 (.panic av) M' O' N' from h1) hM' hO'
 |nil=>exact hs.ok (show fL run M O N k .nil from h) hM hO hd hq
 |r g r=>exact hs.ok (show fL run M O N k (.r g r) from h) hM hO hd hq
 |a a b=>exact hs.ok (show fL run M O N k (.a a b) from h) hM hO hd hq
 |br a b=>exact hs.ok (show fL run M O N k (.br a b) from h) hM hO hd hq
 |yes a=>exact hs.ok (show fL run M O N k (.yes a) from h) hM hO hd hq
 |no a=>exact hs.ok (show fL run M O N k (.no a) from h) hM hO hd hq
 |pick j=>exact hs.ok (show fL run M O N k (.pick j) from h) hM hO hd hq
theorem mD (hcf:ct P callf) (hm:P.follows .mixedOrders=true) {kb:KBs}: ∀(c:Code),oR P n K kb c->gZ P n K c (vcC P n callf pu lf kb c)
 | .skip,_=>⟨fun h _ _ hM hO _ _ _ hq=>Ha (hq h hM hO)⟩
 | .label l,_=>⟨fun {_ _ _ k t} h _ _ hM hO _ _ hd hq=>x6 (k:=k) (t:=t) (g:=[]) (dg (pu:=pu) (lf:=lf) hcf hm (.label l)) ⟨rfl,h⟩ hM hO hd hq⟩
 | .ret,_=>⟨fun {_ _ _ k t} h _ _ hM hO _ _ hd hq=>x6 (k:=k) (t:=t) (g:=[]) (dg (pu:=pu) (lf:=lf) hcf hm .ret) ⟨rfl,h⟩ hM hO hd hq⟩
 | .exit id,_=>⟨fun {_ _ _ k t} h _ _ hM hO _ _ hd hq=>x6 (k:=k) (t:=t) (g:=[]) (dg (pu:=pu) (lf:=lf) hcf hm (.exit id)) ⟨rfl,h⟩ hM hO hd hq⟩
 | .region id ops draw,_=>qI fun h=>dg (pu:=pu) (lf:=lf) hcf hm (.region id ops draw) h
 | .loop c,hk=>P9 (fun h=>dg (pu:=pu) (lf:=lf) hcf hm (.loop c) h) (mD hcf hm c hk)
 | .scope c,hk=>NU (fun h=>dg (pu:=pu) (lf:=lf) hcf hm (.scope c) h) (mD hcf hm c hk)
 | .goto _,_=>⟨fun h=>h.elim⟩
 | .rangeFunc g ps a b,_=>qI fun h=>dg (pu:=pu) (lf:=lf) hcf hm (.rangeFunc g ps a b) h
 | .refuse _,_=>⟨fun h=>h.elim⟩
 | .seq a b,hk=>Vg (mD hcf hm a hk.1) (mD hcf hm b hk.2)
 | .cond x a b,hk=>P8 (x:=x) (mD hcf hm a hk.1) (mD hcf hm b hk.2)
 | .block id c,hk=>by
  simp only [oR] at hk
  show gZ P n K (.block id c) (P7 id (vcC P n callf pu lf kb c) (kb id))
  cases hi:kb id with
  |none=>
   rw [hi] at hk
   exact NT (mD hcf hm c hk)
  |some q=>
   rw [hi] at hk
   exact X1 hk
theorem aL (hcf:ct P callf) (hm:P.follows .mixedOrders=true) {kb:KBs} {c:Code} (h:HV P n K kb c):gZ P n K c (vcC P n callf pu lf kb c):=mD hcf hm c h.ok
structure cc where
 f:FuncId
 args:List AV
 r:AV
 p:Prop
def cc.b7 (P:Program) (c:cc):Prop:=c.p->bg P c.f c.args [] [] c.r []/\ah c.args=true/\c.r.pure=true
noncomputable def bI (T:List cc) (callf:cI):cI:=fun f args O N tm=>match tm.gd with
 | .int (.ofNat i)::g=>match T[i]? with
  |some c=>cond (Nat.beq f c.f) (.ret c.r O N ((tm.at N).told g (dec c.p&&dec (args=c.args)))) (callf f args O N tm)
  |none=>callf f args O N tm
 |_=>callf f args O N tm
inductive cr (P:Program):List cc->Prop
 |nil:cr P []
 |cons {c:cc} {T:List cc} (h:c.b7 P) (hY:Nat.blt c.f dQ=true) (t:cr P T):cr P (c::T)
theorem cr.get: ∀{T:List cc},cr P T-> ∀{i:Nat} {c:cc},T[i]? =some c->c.b7 P/\Nat.blt c.f dQ=true
 |[],_,i,c,h=>by simp at h
 |d::T,.cons h hY t,i,c,e=>by
  cases i with
  |zero=>simp at e;subst e;exact ⟨h,hY⟩
  |succ i=>exact t.get (by simpa using e)
theorem bo {T:List cc} (h:cr P T) (hcf:ct P callf):ct P (bI T callf):=fun f args O N tm=>by
 unfold bI
 split
 ·rename_i i g hg
  split
  ·rename_i c hc
   cases hf:Nat.beq f c.f with
   |false=>exact hcf f args O N tm
   |true=>
    have:=Nat.eq_of_beq_eq_true hf
    subst this
    simp only [cond_true]
    obtain ⟨hgood,hY⟩:=h.get hc
    refine ⟨fun r' O1 N1 t1 e=> ?_,fun av O1 N1 t1 e=>by cases e⟩
    cases e
    refine ⟨⟨[_],rfl⟩,fun hok ob hO=> ?_⟩
    simp only [TM.told,TM.at,cx,Bool.and_eq_true] at hok
    obtain ⟨k1,k2,k3⟩:=hgood (aP.1 hok.1.1)
    have ha:args=c.args:=aP.1 hok.1.2
    grind [nD,Vc]
  ·exact hcf f args O N tm
 ·exact hcf f args O N tm
theorem cA {c:cc} (hg:c.b7 P) (hp:c.p) {l:List Bool} (k:cx l=true):cx (c.r.pure::(dec c.p&&dec (c.args=c.args))::(ah c.args&&true&&true)::l)=true:=by
 obtain ⟨_,h2,h3⟩:=hg hp
 rw [cx,cx,cx,h3,h2,aP.2 hp,aP.2 (rfl:c.args=c.args),k]
 rfl
def HW (r:AV):Option (List AV)->Prop
 |some avs=>gO avs=r
 |none=>False
noncomputable def finV (P:Program) (rs:List ResultVar) (r:AV):VK:=fun _ x M O _=>match x with
 | .normal=>HW r (lA P M O rs)
 | .ret=>HW r (lA P M O rs)
 | .exit _=>False
 | .goto _=>False
 | .panic _=>False
theorem bD {f:FuncId} {fn:Func} {body:Code} {args:List AV} {r:AV} {l:List (Nat×KB)} {t:GT} (hcf:ct P callf) (hm:P.follows .mixedOrders=true) (hf:P.funcs[f]? =some fn) (hname:(fn.name== "runtime.NumGoroutine")=false) (hb:fn.body=some body) (hn:args.length<=fn.ntmps)
  (hk:HV P fn.ntmps 0 (kbL l) body) (hu:r.und 0=true) (h:vcC P fn.ntmps callf pu lf (kbL l) body (l8 0 args .e) .e 0 (finV P fn.results.toList r) t):bg P f args [] [] r []:=by
 refine jo hf hname hb hn (Nat.le_refl _) hu rfl ?_
 refine (aL hcf hm hk).ok h (fa args) bV.nil (.inl rfl) fun {t' x M' O' N' L' ob'} h1 hM hO=> ?_
 have aux:HW r (lA P M' O' fn.results.toList)-> ∃avs,nU P L' ob' fn.results.toList avs/\(qd.ret (gO avs)= .ret r/\ ∃xs,ob' =[]++xs):=fun h=>by
  cases hr:lA P M' O' fn.results.toList with
  |none=>rw [hr] at h;exact h.elim
  |some avs=>
   rw [hr] at h
   exact ⟨avs,jO hM hO hr,congrArg _ h,ob',rfl⟩
 cases x with
 |normal=>exact aux h1
 |ret=>exact aux h1
 |_=>exact h1.elim
def renS (f:Nat->Nat):AV->AV
 | .pt o off=> .pt (f o) off
 | .sr o S lo len=> .sr (f o) S lo len
 | .mp o=> .mp (f o)
 |av=>av
def plS:AV->Bool
 | .pt _ _=>true
 | .sr _ _ _ _=>true
 | .mp _=>true
 |av=>av.pure
def HX (f:Nat->Nat):Ob->Ob
 | .box T cells=> .box T (cells.map (renS f))
 |X=>X
def plO:Ob->Bool
 | .dead=>true
 | .box _ cells=>cells.all plS
 | .row _ _ rows=>aj rows
 | .mp _ vals=>ah vals
 | .lp _ _ _ _=>false
theorem ET {f:Nat->Nat} {av:AV} (h:plS av=true):av.ren f=renS f av:=by
 cases av<;>first|rfl|(simp only [AV.ren,renS];done)|exact fJ _ _ h
theorem Qa {f:Nat->Nat} {X:Ob} (h:plO X=true):X.ren f=HX f X:=by
 cases X with
 |dead=>rfl
 |box T cells=>
  simp only [Ob.ren,HX,plO] at*
  congr 1
  induction cells with
  |nil=>rfl
  |cons c cs ih=>
   grind [b6,ET]
 |row T S rows=>
  simp only [Ob.ren,HX,plO] at*
  rw [gb (N:=0) (fun _ h=>by cases h) rows (eS 0 rows h)]
 |mp keys vals=>
  grind [Ob.ren,HX,plO,cD]
 |lp _ _ _ _=>cases h
structure bG where
 p:Prop
 x:AX
 L:Loc
 sel:List Nat
 ob:List Ob
def nmS (sel:List Nat) (N:Nat) (L:Loc):List (Option AV):=L.map fun p=>some (renS (b0 sel N) p.2)
def obS (sel:List Nat) (N:Nat) (ob:List Ob):List (Option Ob):=ob.map fun X=>some (HX (b0 sel N) X)
def bG.cS (K:Nat) (o:bG):Bool:=eT o.x&&(lB o.sel&&((range K).all (fun i=>o.sel[i]? ==some i)&&(o.L.all (fun p=>plS p.2)&&o.ob.all plO)))
def bG.ends (o:bG) (x:AX) (M:Tri AV) (O:Tri Ob) (N:Nat):Prop:=o.p/\x=o.x/\(o.L.map fun p=>M.get p.1)=nmS o.sel N o.L/\o.sel.map O.get=obS o.sel N o.ob
def bM (l:List bG):VK:=fun t x M O N=>match t with
 | .pick j=>match l[j]? with
  |some o=>o.ends x M O N
  |none=>False
 |_=>False
theorem bG.view {o:bG} (hf:o.cS K=true) {x:AX} {M:Tri AV} {O:Tri Ob} {N:Nat} (h:o.ends x M O N) {L1:Loc} {ob1:List Ob} (hM:cw M L1) (hO:bV O N ob1):Mc K L1 ob1 o.L o.ob o.sel/\eT x=true/\x=o.x:=by
 simp only [bG.cS,Bool.and_eq_true] at hf
 obtain ⟨f1,f2,f3,f4,f5⟩:=hf
 obtain ⟨_,rfl,h1,h2⟩:=h
 have hl1:ob1.length=N:=hO.1
 have h1' :(o.L.map (·.1)).map M.get=l9 (b0 o.sel N) o.L:=by
  rw [List.map_map]
  refine h1.trans (List.map_congr_left fun p hp=> ?_)
  grind [ET]
 have h2' :o.sel.map O.get=(o.ob.map fun X=>X.ren (b0 o.sel N)).map some:=by
  grind [obS,List.map_congr_left,Qa]
 refine ⟨⟨iz f2,?_,fun i s X hi hX=> ?_,fun i hi=> ?_,fun t av e=> ?_⟩,f1,rfl⟩
 ·have:=congrArg length h2'
  simpa using this
 ·have e1:(o.sel.map O.get)[i]? =some (O.get s):=by rw [List.getElem?_map,hi];rfl
  rw [h2',List.getElem?_map,List.getElem?_map,hX] at e1
  simp only [Option.map_some,Option.some.injEq] at e1
  exact ⟨_,by rw [<-hO.2];exact e1.symm,by rw [hl1];exact .same _⟩
 ·simp_all
 ·rw [<-hM t,hl1]
  exact kF h1' t av e
theorem oT {c:Code} {V:VC} (hv:gZ P n K c V) {L:Loc} {ob:List Ob} {l:List bG} {t:GT} (h:V (bz L) (bw ob) ob.length (bM l) t) (hf:l.all (bG.cS K)=true) {df:Option Nat} {Q:dI} (hd:jG df c) (hq: ∀o∈l,o.p->Q o.x o.L o.ob):awp df P n K [] c Q L ob:=by
 refine sG (hv.ok h (gD L) (e7 ob) hd fun {t' x M' O' N' L' ob'} h1 hM hO=> ?_)
 cases t' with
 |pick j=>
  simp only [bM] at h1
  split at h1
  ·rename_i o ho
   have hm:=List.mem_of_getElem? ho
   obtain ⟨v,w,rfl⟩:=bG.view (List.all_eq_true.1 hf o hm) h1 hM hO
   exact ⟨o.L,o.ob,o.sel,v,w,hq o hm h1.1⟩
  ·exact h1.elim
 |_=>exact h1.elim
theorem cF {c:Code} {V:VC} (hv:gZ P n K c V) {L L' :Loc} {ob ob' :List Ob} {x:AX} {sel:List Nat} {t:GT} (h:V (bz L) (bw ob) ob.length (bM [⟨True,x,L',sel,ob'⟩]) t) (hf:bG.cS K ⟨True,x,L',sel,ob'⟩=true):Piece P n K c L ob x L' ob' :=
 fun df Q hd hq=>oT hv h (by simp [hf]) hd fun o ho _=>by simp only [List.mem_singleton] at ho;subst ho;exact hq
theorem eB {id:Nat} {c:Code} {m:Nat} {t:Nat->Bool} {xr xn:AX} {Lr:Nat->Loc} {Lx:Loc} {obr:Nat->List Ob} {obx:List Ob} {V:Nat->VC} {Vx:VC} (L:Nat->Loc) (Bs:Nat->List Ob) (k:Nat) (outs:Nat->List bG) (g:Nat->GT) (gx:GT) (sx:List Nat)
  (hv: ∀i,i<m->gZ P n K c (V i)) (hvx:gZ P n K c Vx) (hxr:xr≠ .normal) (hxn:xn≠ .normal) (hk: ∀i,(Bs i).length=k)
  (h: ∀i,i<m->V i (bz (L i)) (bw (Bs i)) k (bM (outs i)) (g i)) (hf: ∀i,i<m->(outs i).all (bG.cS K)=true)
  (hq: ∀i,i<m-> ∀o∈outs i,o.p->(o.x= .normal/\t i=false/\o.L=L (i+1)/\o.ob=Bs (i+1))\/(t i=true/\o.x=xr/\o.L=Lr i/\o.ob=obr i))
  (hx:Vx (bz (L m)) (bw (Bs m)) k (bM [⟨True,xn,Lx,sx,obx⟩]) gx) (hfx:bG.cS K ⟨True,xn,Lx,sx,obx⟩=true):
  (cX m t=true->Piece P n K (.block id (.loop c)) (L 0) (Bs 0) (oS id xr) (Lr (b4 m t)) (obr (b4 m t)))/\(cX m t=false->Piece P n K (.block id (.loop c)) (L 0) (Bs 0) (oS id xn) Lx obx):=by
 have go: ∀{df:Option Nat} {Q:dI},jG df (.block id (.loop c))-> ∀M,M<=m->(∀i,i<M->t i=false)->awp df P n K [] c (fun x L' ob' =>(x= .normal/\False)\/(x≠ .normal/\Q (oS id x) L' ob')) (L M) (Bs M)->awp df P n K [] (.block id (.loop c)) Q (L 0) (Bs 0):=fun {df Q} hd M hM ht hl=>by
  have hd' :jG df c:=hd.imp (fun e=>e) fun e=>by simpa only [Code.inR] using e
  refine dJ (mf L Bs (fun i=>i<=M) (fun i=>M-i) 0 (Nat.zero_le _) (Sub.refl _) rfl fun i hi=> ?_)
  by_cases e:i=M
  ·subst e
   refine wQ hl fun x L' ob' q=> ?_
   rcases q with ⟨_,q⟩|⟨q1,q2⟩
   ·exact q.elim
   ·have:=qH (df:=df) (id:=id) (Q:=Q) q2
    cases x with
    |normal=>exact absurd rfl q1
    |_=>exact this
  ·have hlt:i<m:=by omega
   refine oT (hv i hlt) ((hk i).symm▸h i hlt) (hf i hlt) hd' fun o ho hp=> ?_
   rcases hq i hlt o ho hp with ⟨e1,_,e3,e4⟩|⟨e1,_⟩
   ·rw [e1,e3,e4]
    exact ⟨i+1,by omega,by omega,Sub.refl _,rfl⟩
   ·rw [ht i oab] at e1;cases e1
 refine ⟨fun ht df Q hd hQ=> ?_,fun ht df Q hd hQ=> ?_⟩
 ·obtain ⟨hj,ht,hlt⟩:=gY ht
  have hd' :jG df c:=hd.imp (fun e=>e) fun e=>by simpa only [Code.inR] using e
  refine go hd (b4 m t) oab hlt (oT (hv _ hj) ((hk _).symm▸h _ hj) (hf _ hj) hd' fun o ho hp=> ?_)
  rcases hq _ hj o ho hp with ⟨_,e2,_⟩|⟨_,e2,e3,e4⟩
  ·rw [ht] at e2;cases e2
  ·rw [e2,e3,e4]
   exact .inr ⟨hxr,hQ⟩
 ·have ht:=bL.1 ht
  have hd' :jG df c:=hd.imp (fun e=>e) fun e=>by simpa only [Code.inR] using e
  refine go hd m (Nat.le_refl _) ht (oT hvx ((hk m).symm▸hx) (by rw [List.all_cons,hfx];rfl) hd' fun o ho _=> ?_)
  simp only [List.mem_singleton] at ho
  subst ho
  exact .inr ⟨hxn,hQ⟩
def nxW (t:Bool) (L1:Loc) (ob1:List Ob) (La:Loc) (sel:List Nat) (oba:List Ob):bG:=⟨t=false/\La=L1/\oba=ob1,.normal,La,sel,oba⟩
def htW (t:Bool) (xr:AX) (Lr:Loc) (sel:List Nat) (obr:List Ob):bG:=⟨t=true,xr,Lr,sel,obr⟩
def cm (t:Bool) (xr:AX) (L1:Loc) (ob1:List Ob) (Lr:Loc) (obr:List Ob) (o:bG):Prop:=o.p->(o.x= .normal/\t=false/\o.L=L1/\o.ob=ob1)\/(t=true/\o.x=xr/\o.L=Lr/\o.ob=obr)
theorem bU {t:Bool} {xr:AX} {L1 La Lr:Loc} {ob1 oba obr:List Ob} {sel:List Nat}:cm t xr L1 ob1 Lr obr (nxW t L1 ob1 La sel oba):=fun h=> .inl ⟨rfl,h.1,h.2.1,h.2.2⟩
theorem cT {t:Bool} {xr:AX} {L1 Lr:Loc} {ob1 obr:List Ob} {sel:List Nat}:cm t xr L1 ob1 Lr obr (htW t xr Lr sel obr):=fun h=> .inr ⟨h,rfl,rfl,rfl⟩
theorem bB {p:bG->Prop}: ∀o∈([]:List bG),p o:=fun o h=>by simp at h
theorem aC {p:bG->Prop} {o:bG} {l:List bG} (h:p o) (t: ∀o∈l,p o): ∀o' ∈o::l,p o' :=oaI
theorem iZ {id:Nat} {c:Code} {k:KB} {A B:Prop} {m:Nat} {t:Nat->Bool} (h:k.p->(cX m t=true->A)/\(cX m t=false->B)) (ht: ∀i,t i=false) (hk:k.hit=false) (hb:B->Piece P n K (.block id c) k.L0 k.ob0 k.x2 k.L2 k.ob2):cQ P n K id c k:=⟨fun _ e=>(by rw [hk] at e;cases e),(by grind [bL])⟩
theorem bW {id:Nat} {c:Code} {k:KB} {A B:Prop} (h:k.p->(k.hit=true->A)/\(k.hit=false->B)) (ha:A->Piece P n K (.block id c) k.L0 k.ob0 k.x1 k.L1 k.ob1) (hb:B->Piece P n K (.block id c) k.L0 k.ob0 k.x2 k.L2 k.ob2):cQ P n K id c k:=⟨fun hp e=>ha ((h hp).1 e),fun hp e=>hb ((h hp).2 e)⟩
theorem aR {K:Nat} {o:bG} (h1:eT o.x=true) (h2:lB o.sel=true) (h3:(range K).all (fun i=>o.sel[i]? ==some i)=true) (h4:o.L.all (fun p=>plS p.2)=true) (h5:o.ob.all plO=true):bG.cS K o=true:=by grind [bG.cS]
theorem bC {K:Nat}:([]:List bG).all (bG.cS K)=true:=rfl
theorem aF {K:Nat} {o:bG} {l:List bG} (h:bG.cS K o=true) (k:l.all (bG.cS K)=true):(o::l).all (bG.cS K)=true:=by simp_all
end
theorem brP {v:Bool} {A B:Prop} (f:v=true->A) (g:v=false->B):(v=true/\A)\/(v=false/\B):=by
 grind
theorem aM {v:Bool} {A B:Prop} (f:v=true->A) (g:v=false->B):A\/B:=by
 grind
theorem lf (o:bG) (N:Nat) (h:o.p):o.p/\o.x=o.x/\nmS o.sel N o.L=nmS o.sel N o.L/\obS o.sel N o.ob=obS o.sel N o.ob:=⟨h,rfl,rfl,rfl⟩
abbrev wy (l:List bG) (j:Nat):bG:=l.getD j ⟨False,.normal,[],[],[]⟩
theorem aU {α β:Type} (f:α->β) (l:List α):(map f l).length=l.length:=List.length_map f
theorem JY {x y:Int} (h:(x !=y)=true):x≠y:=by simpa using h
theorem fu {x y:Int} (h:(x !=y)=false):x=y:=by simpa using h
theorem an {A B:Prop} (h:A) (k:B):A/\B:=⟨h,k⟩
theorem bE {x v:Bool} (h:x=v):AV.v (.bool v)=AV.v (.bool x):=by rw [h]
theorem iE {x v:Int} (h:x=v):AV.v (.int .i64 v)=AV.v (.int .i64 x):=by rw [h]
theorem vE {x v:AV} (h:x=v):v=x:=h.symm
theorem bc {A B:Prop} (h:A) (e:A=B):B:=e▸h
section
variable {P:Program} {n K:Nat}
structure eQ (K:Nat) (L:Loc) (ob:List Ob) (L' :Loc) (ob' :List Ob):Prop where
 to: ∀m γ w,Inv m γ ob w-> ∃m' γ',Trans m γ w m' γ' w/\Inv m' γ' ob' w/\(∀o g,o<K->γ o=some g->γ' o=some g)/\(∀k,InG γ' k->InG γ k)/\(∀a,b9 m γ a L->b9 m' γ' a L')
theorem eQ.refl (L:Loc) (ob:List Ob):eQ K L ob L ob:=⟨fun m γ w hi=>⟨m,γ,Trans.refl _ _ _,hi,fun _ _ _ h=>h,fun _ h=>h,fun _ h=>h⟩⟩
theorem eQ.trans {L L1 L2:Loc} {ob ob1 ob2:List Ob} (h:eQ K L ob L1 ob1) (k:eQ K L1 ob1 L2 ob2):eQ K L ob L2 ob2:=⟨fun m γ w hi=>by
 obtain ⟨m1,γ1,t1,i1,g1,b1,l1⟩:=h.to m γ w hi
 obtain ⟨m2,γ2,t2,i2,g2,b2,l2⟩:=k.to m1 γ1 w i1
 exact ⟨m2,γ2,t1.trans t2,i2,fun o g ho hg=>g2 o g ho (g1 o g ho hg),fun k hk=>b1 k (b2 k hk),fun a ha=>l2 a (l1 a ha)⟩⟩
theorem Qb {df:Option Nat} {c:Code} {Q:dI} {L L' :Loc} {ob ob' :List Ob} (h:eQ K L ob L' ob') (k:awp df P n K [] c Q L' ob'):awp df P n K [] c Q L ob:=by
 intro m γ w a hi hl hs hd
 obtain ⟨m',γ',t1,i1,g1,b1,l1⟩:=h.to m γ w hi
 refine wpIn_mono (k m' γ' w a i1 (l1 a hl) hs hd) ?_
 rintro e a1 w1 ⟨m1,γ1,L1,ob1,ax,h1,h2,h3,h4,h5,h6,h7,h8⟩
 exact ⟨m1,γ1,L1,ob1,ax,h1,h2,t1.trans h3,h4,h5,h6,h7,fun o g ho hg=>h8 o g ho (g1 o g ho.1 hg)⟩
theorem Qc {df:Option Nat} {c:Code} {Q:dI} {L0:Loc} {ob0:List Ob} (h:awp df P n K [] c (fun x L ob=> ∃L' ob',eQ K L ob L' ob' /\eT x=true/\Q x L' ob') L0 ob0):awp df P n K [] c Q L0 ob0:=by
 intro m γ w a hi hl hs hd
 refine wpIn_mono (h m γ w a hi hl hs hd) ?_
 rintro e a1 w1 ⟨m1,γ1,L1,ob1,ax,⟨L',ob',ht,hp,hq⟩,h2,h3,h4,h5,h6,h7,h8⟩
 obtain ⟨m2,γ2,t1,i1,g1,b1,l1⟩:=ht.to m1 γ1 w1 h4
 refine ⟨m2,γ2,L',ob',ax,hq,?_,h3.trans t1,i1,l1 a1 h5,h6,h7.gam b1,fun o g ho hg=>g1 o g ho.1 (h8 o g ho hg)⟩
 cases ax with
 |panic av=>cases hp
 |_=>cases e<;>first|exact h2.elim|exact h2
theorem fv {c:Code} {L L' L1 L1' :Loc} {ob ob' ob1 ob1' :List Ob} {x:AX} (h:eQ K L' ob' L ob) (k:Piece P n K c L ob x L1 ob1) (t:eQ K L1 ob1 L1' ob1') (hx:eT x=true):Piece P n K c L' ob' x L1' ob1' :=
 fun df _ hd hq=>Qb h (Qc (k df _ hd ⟨L1',ob1',t,hx,hq⟩))
theorem x7 {id:Nat} {c:Code} {q:KB} {L0 L1 L2:Loc} {ob0 ob1 ob2:List Ob} (h:cQ P n K id c q) (t0:eQ K L0 ob0 q.L0 q.ob0) (t1:eQ K q.L1 q.ob1 L1 ob1) (h1:eT q.x1=true) (t2:eQ K q.L2 q.ob2 L2 ob2) (h2:eT q.x2=true):cQ P n K id c ⟨L0,ob0,q.hit,q.x1,L1,ob1,q.x2,L2,ob2,q.p⟩:=
 ⟨fun hp e=>fv t0 (h.1 hp e) t1 h1,fun hp e=>fv t0 (h.2 hp e) t2 h2⟩
theorem C1 {L L' :Loc} {ob:List Ob} {T:TypeId} {S:Nat} (hL: ∀t av',lk L' t=some av' ->lk L t=some av' \/(lk L t=some (.v (.slice none 0 0))/\av' = .sr ob.length S 0 0)):eQ K L ob L' (ob++ [.row T S []]):=by
 refine ⟨fun m γ w hi=> ?_⟩
 have hnone:γ ob.length=none:=by
  cases hg:γ ob.length with
  |none=>rfl
  |some g=>exact absurd (hi.len ob.length oaz) (Nat.lt_irrefl _)
 let γ' :Gam:=fun o=>if o=ob.length then some none else γ o
 have hne: ∀o,o≠ob.length->γ' o=γ o:=fun o ho=>by simp only [γ',if_neg ho]
 have heq:γ' ob.length=some none:=by simp only [γ',if_pos]
 have hle:Le m γ [] m γ' :=⟨fun _ _ h=>h,fun o g hg _=>by
  by_cases ho:o=ob.length
  ·rw [ho,hnone] at hg;cases hg
  ·rw [hne o ho];exact hg⟩
 have hback: ∀o b C,γ' o=some (some (b,C))->γ o=some (some (b,C))/\o≠ob.length:=fun o b C hg=>by
  by_cases ho:o=ob.length
  ·rw [ho,heq] at hg;cases hg
  ·rw [hne o ho] at hg;exact ⟨hg,ho⟩
 have hobj: ∀o Y,(ob++ [Ob.row T S []])[o]? =some Y->(o<ob.length/\ob[o]? =some Y)\/(o=ob.length/\Y= .row T S []):=fun o Y hY=>by
  by_cases h1:o<ob.length
  ·rw [List.getElem?_append_left h1] at hY;exact .inl ⟨h1,hY⟩
  ·rw [List.getElem?_append_right oab] at hY
   cases h2:o-ob.length with
   |zero=>rw [h2] at hY;simp at hY;exact .inr ⟨by omega,hY.symm⟩
   |succ k=>rw [h2] at hY;simp at hY
 refine ⟨m,γ',⟨fun _ _ h=>h,fun _ _ h=> .inl h,fun q _ ⟨o,C,h⟩=>⟨o,C,(hback o q C h).1⟩,rfl,rfl,rfl,Nat.le_refl _,fun _ _ _=>rfl⟩,⟨hi.mem,fun o Y hY=> ?_,fun o o' b C C' l1 l2 h1 h2=> ?_,fun o b C h=>hi.dom o b C (hback o b C h).1,fun o h=> ?_⟩,fun o g _ hg=> ?_,fun k ⟨o,C,h⟩=>⟨o,C,(hback o k C h).1⟩,fun a hl t av' e=> ?_⟩
 ·rcases hobj o Y hY with ⟨h1,h2⟩|⟨rfl,rfl⟩
  ·exact eK (hi.obj o Y h2) hle (fun _ _ _=>rfl) (fun _ _ _ _ h=>h)
  ·exact .inl ⟨heq,rfl⟩
 ·have hlv: ∀o b C,γ' o=some (some (b,C))->live (ob++ [Ob.row T S []]) o->live ob o:=by
   rintro o b C hg ⟨Y,hY,hne⟩
   rcases hobj o Y hY with ⟨_,h2⟩|⟨h1,_⟩
   ·exact ⟨Y,h2,hne⟩
   ·exact absurd h1 (hback o b C hg).2
  exact hi.sep o o' b C C' (hlv o b C h1 l1) (hlv o' b C' h2 l2) (hback o b C h1).1 (hback o' b C' h2).1
 ·rw [List.length_append]
  by_cases ho:o=ob.length
  ·simp [ho]
  ·rw [hne o ho] at h
   have:=hi.len o h
   simp;omega
 ·by_cases ho:o=ob.length
  ·rw [ho,hnone] at hg;cases hg
  ·rw [hne o ho];exact hg
 ·rcases hL t av' e with h|⟨h,rfl⟩
  ·exact ⟨(hl t av' h).1,vV hle (hl t av' h).2⟩
  ·obtain ⟨q1,q2⟩:=hl t _ h
   refine ⟨q1,?_⟩
   have hx:a.tmps.getD t undef= .slice none 0 0:=by simpa [Rep] using q2
   simp only [Rep]
   exact .inl ⟨heq,⟨none,hx⟩,trivial,trivial⟩
theorem C2 {L L' :Loc} {ob:List Ob} {T:TypeId} {S k:Nat} {rows:List (List AV)} (hk:k=rows.length) (hK:K<=ob.length)
  (hL: ∀t av',lk L' t=some av' ->(lk L t=some av' /\av'.und ob.length=true)\/(lk L t=some (.sr ob.length S 0 k)/\av' = .sl S rows/\(AV.sl S rows).und ob.length=true)) (hO:ob.all (Ob.und ob.length)=true):eQ K L (ob++ [.row T S rows]) L' ob:=by
 refine ⟨fun m γ w hi=> ?_⟩
 have ho:(ob++ [Ob.row T S rows])[ob.length]? =some (.row T S rows):=by simp
 obtain ⟨m2,hm,hi2,ht⟩:=gX hi ho (.inl ⟨T,S,rows,rfl⟩)
 have hset:(ob++ [Ob.row T S rows]).set ob.length .dead=ob++ [.dead]:=by simp
 rw [hset] at hi2
 obtain ⟨d1,d2⟩:=mq hi2 hO
 have hb: ∀o g,(fun o=>if o<ob.length then γ o else none) o=some g->γ o=some g:=fun o g h=>by
  simp only at h
  split at h
  ·exact h
  ·cases h
 refine ⟨m2,_,ht.trans ⟨fun _ _ h=>h,fun _ _ h=> .inl h,fun k _ ⟨o,C,h⟩=>⟨o,C,hb o _ h⟩,rfl,rfl,rfl,Nat.le_refl _,fun _ _ _=>rfl⟩,d1,fun o g h1 h2=>(if_pos (show o<ob.length by omega)).trans h2,fun k ⟨o,C,h⟩=>⟨o,C,hb o _ h⟩,fun a hl t av' e=> ?_⟩
 rcases hL t av' e with ⟨h,hu⟩|⟨h,rfl,hu⟩
 ·obtain ⟨q1,q2⟩:=hl t _ h
  exact ⟨q1,d2 _ _ hu (fm hm.le av' _ (AV.ef _) q2)⟩
 ·obtain ⟨q1,q2⟩:=hl t _ h
  exact ⟨q1,d2 _ _ hu (Frz.sr0 rfl hk _ _ _ hm _ q2)⟩
end
@[simp] theorem og: ∀a b:List (List AV),aj (a++b)=(aj a&&aj b)
 |[],b=>by simp [aj]
 |x::a,b=>by simp only [List.cons_append,aj,og a b,Bool.and_assoc]
theorem jq {a:List (List AV)} (k:Nat) (h:aj a=true):aj (a.take k)=true:=by
 grind [og,List.take_append_drop]
theorem rzA {y:Int} {z len:Nat} (h:y=(z:Int)) (h2:Nat.blt z len=true):(dec (y=(z:Int))&&Nat.blt z len)=true:=by rw [aP.2 h,h2];rfl
theorem joinH {P:Program} {n K:Nat} {id:Nat} {c:Code} {V:VC} (hv:gZ P n K (.block id c) V) {L Lr Lx:Loc} {ob obr obx:List Ob} {tv:Bool} {xr xn:AX} {sr sx:List Nat} {t:GT} {p:Prop} (h:p->V (bz L) (bw ob) ob.length (bM [⟨tv=true,xr,Lr,sr,obr⟩,⟨tv=false,xn,Lx,sx,obx⟩]) t)
  (f1:bG.cS K ⟨tv=true,xr,Lr,sr,obr⟩=true) (f2:bG.cS K ⟨tv=false,xn,Lx,sx,obx⟩=true):cQ P n K id c ⟨L,ob,tv,xr,Lr,obr,xn,Lx,obx,p⟩:=by
 have hf:([⟨tv=true,xr,Lr,sr,obr⟩,⟨tv=false,xn,Lx,sx,obx⟩]:List bG).all (bG.cS K)=true:=aF f1 (aF f2 bC)
 refine ⟨fun hp e df Q hd hq=>oT hv (h hp) hf hd fun o ho hpo=> ?_,fun hp e df Q hd hq=>oT hv (h hp) hf hd fun o ho hpo=> ?_⟩
 ·simp only [List.mem_cons,List.not_mem_nil,or_false] at ho
  rcases ho with rfl|rfl
  ·exact hq
  ·have hpo:tv=false:=hpo
   have e:tv=true:=e
   rw [hpo] at e;cases e
 ·simp only [List.mem_cons,List.not_mem_nil,or_false] at ho
  rcases ho with rfl|rfl
  ·have hpo:tv=true:=hpo
   have e:tv=false:=e
   rw [hpo] at e;cases e
  ·exact hq
theorem cAk {P:Program} {c:cc} (hg:c.b7 P) (hp:c.p) (a b:List AV) (ha:ah a=true) (hb:ah b=true) {l:List Bool} (k:cx l=true):cx (c.r.pure::(dec c.p&&dec (c.args=c.args))::(ah a&&true&&ah b)::l)=true:=by
 obtain ⟨_,_,h3⟩:=hg hp
 rw [cx,cx,cx,h3,ha,hb,aP.2 hp,aP.2 (rfl:c.args=c.args),k]
 rfl
theorem apA {k l n B:Nat} (h1:k<=l) (h2:(k+n)*B<=140737488355328) (h3:k+n<=9223372036854775807):((true&&true&&true&&Nat.ble k l)&&true&&(true&&true&&true&&Nat.ble ((k+n)*B) 140737488355328&&Nat.ble (k+n) 9223372036854775807&&true))=true:=by
 simp [Nat.ble_eq,h1,h2,h3]
theorem slA {p q l:Nat} (h1:p<=q) (h2:q<=l):((Nat.ble p q&&Nat.ble q l)&&true)=true:=by simp [Nat.ble_eq,h1,h2]
theorem ixL {z n:Nat} (h:z<n):(true&&Nat.blt z n)=true:=by simp [Nat.blt_eq,h]
theorem ixI {x:Int} {n:Nat} (h0:0<=x) (h:x<(n:Int)):(true&&(dec (x=((x.toNat:Nat):Int))&&Nat.blt x.toNat n))=true:=by
 grind [aP,Nat.blt_eq]
section
variable {α:Type} [Inhabited α] {f0:α->List AV} {l:List α} {rows:List (List AV)} {S f k z:Nat}
theorem atL (e:rows=l.map f0) (hf:f<S) (h:z<l.length):(dec ((0*S+z*S+f)/S=z)&&(dec ((0*S+z*S+f)%S=f)&&dec (rows[z]? =some (f0 (ae l z)))))=true:=by
 grind [Nat.add_mul_div_right,Nat.div_eq_of_lt,Nat.add_mul_mod_self_right,Nat.mod_eq_of_lt,aP,eM]
theorem stL (e:rows=l.map f0) (hf:f<S) (h:z<l.length) (hk:Nat.ble (f+k) S=true):((true&&(dec ((0*S+z*S+f)/S=z)&&(dec ((0*S+z*S+f)%S=f)&&dec (rows[z]? =some (f0 (ae l z))))))&&Nat.ble (f+k) S)=true:=by rw [atL e hf h,hk];rfl
end
section
variable {α:Type} {l:List α} {rows:List (List AV)} {k:Nat}
theorem jr {f:α->List AV} (e:rows=l.map f) (z:Nat) (x:α):rows.set z (f x)=(l.set z x).map f:=by rw [e,List.map_set]
theorem apL {f0:α->List AV} {B:Nat} (e:rows=l.map f0) (h1:k<=l.length) (h2:(k+1)*B<=140737488355328) (h3:k+1<=9223372036854775807):((true&&true&&true&&Nat.ble k rows.length)&&true&&(true&&true&&true&&Nat.ble ((k+1)*B) 140737488355328&&Nat.ble (k+1) 9223372036854775807&&true))=true:=oaI
theorem apF {f:α->List AV} (e:rows=l.map f) (hk:k=l.length) (x:α):rows.take k++ [f x]=(l++ [x]).map f:=by grind [List.length_map]
theorem apT {f:α->List AV} (e:rows=l.map f) (k:Nat) (x:α):rows.take k++ [f x]=(l.take k++ [x]).map f:=by simp_all
theorem EU {f:α->List AV} (n:Nat) (x:α):replicate n (f x)=(replicate n x).map f:=by simp
end
theorem dws {k:Nat} (h:1<=k) (h2:k<=9223372036854775807):dec (IntKind.i64.wrap ((k:Int)-1)=((k-1:Nat):Int))=true:=(by grind [aP,wrap_i64])
theorem mkSl {n B:Nat} (h:B*n<=281474976710656) (h2:n<=maxLen):(true&&true&&Nat.ble n n&&Nat.ble (B*n) 281474976710656&&Nat.ble n maxLen)=true:=by
 simp_all
theorem dZ:([]:List Ob)=[]:=rfl
theorem bq {a b:Ob} {l m:List Ob} (h:a=b) (k:l=m):a::l=b::m:=by rw [h,k]
theorem lfE (o:bG) (N:Nat) (h:o.p) {oba:List Ob} (e:oba=o.ob):o.p/\o.x=o.x/\nmS o.sel N o.L=nmS o.sel N o.L/\obS o.sel N oba=obS o.sel N o.ob:=⟨h,rfl,rfl,congrArg _ e⟩
theorem Ch (k:KB) {S:List (Option AV)} {ob:List Ob} (h1:S=nm k.L0) (h2:ob=k.ob0) (hp:k.p):(dec (S=nm k.L0)&&dec (ob=k.ob0)&&dec k.p)=true:=by grind [aP]
section
variable {α:Type}
open Classical in
noncomputable def ja:List α->α->Option Nat
 |[],_=>none
 |x::l,k=>if k=x then some 0 else (ja l k).map (·+1)
noncomputable def JZ (l:List α) (k:α):Nat:=(ja l k).getD 0
theorem EV {l:List α} {k:α} (h:k∉l):ja l k=none:=by
 induction l with
 |nil=>rfl
 |cons x l ih=>
  grind [ja]
theorem HY {l:List α} {k:α} (h:k∈l):ja l k=some (JZ l k)/\JZ l k<l.length:=by
 have key: ∃j,ja l k=some j/\j<l.length:=by
  induction l with
  |nil=>simp at h
  |cons x l ih=>
   by_cases e:k=x
   ·simp_all [ja]
   grind [ja]
 grind [JZ]
theorem C3 {d:TypeDesc} {f:α->Value} (hf: ∀x y,f x=f y->x=y) (hk: ∀x,ff d (f x)=true) (k:α): ∀l:List α,kA d (f k) (l.map f)=some (ja l k)
 |[]=>rfl
 |x::l=>by
  obtain ⟨r,h1,h2⟩:=Go.MapKept.sameNow_of_keys (ep (hk k)) (ep (hk x))
  simp only [List.map_cons,kA,h1,C3 hf hk k l,ja]
  by_cases e:k=x
  ·rw [h2.2 (congrArg f e),if_pos e]
  ·have:r=false:=by
    grind
   subst this
   rw [if_neg e]
   cases ja l x<;>cases ja l k<;>rfl
theorem Qd {d:TypeDesc} {f:α->Value} (hf: ∀x y,f x=f y->x=y) (hk: ∀x,ff d (f x)=true) (k:α) (l:List α):Ht d (f k) (l.map f) (ja l k):=
 ⟨hk k,by simp [List.all_eq_true,hk],C3 hf hk k l⟩
def tru {α:Type} (_:α):AV:= .v (.bool true)
theorem HZ {z:AV} (hz:z= .v (.bool false)) (k:α) (l:List α):qv (l.map tru) z (ja l k)=some (.v (.bool (dec (k∈l)))):=by
 grind [HY,qv,tru,EV,dec]
end
theorem nJ {p:Prop}:dec p=false↔ ¬p:=by
 grind [aP]
def eC (l:List ByteArray):Ob:= .mp (l.map Value.string) (l.map tru)
def dG (l:List Int):Ob:= .mp (l.map (Value.int .i64)) (l.map tru)
theorem injS: ∀x y:ByteArray,Value.string x=Value.string y->x=y:=fun _ _ h=>by cases h;rfl
theorem injI: ∀x y:Int,Value.int .i64 x=Value.int .i64 y->x=y:=fun _ _ h=>by cases h;rfl
theorem lkS (k:ByteArray) (l:List ByteArray):dec (Ht .string (.string k) (l.map Value.string) (ja l k)/\qv (l.map tru) (.v (.bool false)) (ja l k)=some (.v (.bool (dec (k∈l)))))=true:=aP.2 ⟨Qd injS (fun _=>rfl) k l,HZ rfl k l⟩
theorem lkI (k:Int) (l:List Int):dec (Ht (.int .i64) (.int .i64 k) (l.map (Value.int .i64)) (ja l k)/\qv (l.map tru) (.v (.bool false)) (ja l k)=some (.v (.bool (dec (k∈l)))))=true:=aP.2 ⟨Qd injI (fun _=>rfl) k l,HZ rfl k l⟩
theorem nwS {k:ByteArray} {l:List ByteArray} (h:dec (k∈l)=false):dec (Ht .string (.string k) (l.map Value.string) none)=true:=aP.2 (EV (nJ.1 h)▸Qd injS (fun _=>rfl) k l)
theorem nwI {k:Int} {l:List Int} (h:dec (k∈l)=false):dec (Ht (.int .i64) (.int .i64 k) (l.map (Value.int .i64)) none)=true:=aP.2 (EV (nJ.1 h)▸Qd injI (fun _=>rfl) k l)
theorem odI {k:Int} {l:List Int} (h:dec (k∈l)=true):dec (Ht (.int .i64) (.int .i64 k) (l.map (Value.int .i64)) (some (JZ l k)))=true:=aP.2 ((HY (aP.1 h)).1▸Qd injI (fun _=>rfl) k l)
theorem Qe (k:ByteArray) (l:List ByteArray):Ob.mp (l.map Value.string++ [.string k]) (l.map tru++ [.v (.bool true)])=eC (l++ [k]):=by simp [eC,tru]
theorem mE (k:Int) (l:List Int):Ob.mp (l.map (Value.int .i64)++ [.int .i64 k]) (l.map tru++ [.v (.bool true)])=dG (l++ [k]):=by simp [dG,tru]
theorem Mr {α:Type} (l:List α) (j:Nat):(l.map tru).set j (.v (.bool true))=l.map tru:=by
 refine List.ext_getElem? fun i=> ?_
 grind [tru]
theorem Qf (j:Nat) (l:List Int):Ob.mp (l.map (Value.int .i64)) ((l.map tru).set j (.v (.bool true)))=dG l:=by rw [Mr];rfl
theorem oh: ∀a b:List AV,ah (a++b)=(ah a&&ah b)
 |[],b=>by simp [ah]
 |x::a,b=>by simp only [List.cons_append,ah,oh a b,Bool.and_assoc]
@[simp] theorem Qg {α:Type} (l:List α):ah (l.map tru)=true:=by
 induction l with
 |nil=>rfl
 |cons x l ih=>simp only [List.map_cons,ah,tru,AV.pure,ih,Bool.and_self]
@[simp] theorem pv_tru1 {α:Type} (l:List α):ah (l.map tru++ [.v (.bool true)])=true:=by rw [oh,Qg];rfl
@[simp] theorem pv_tru2 {α:Type} (l:List α) (j:Nat):ah ((l.map tru).set j (.v (.bool true)))=true:=by rw [Mr,Qg]
end Go.Am
end
