/- An abstract machine, part Vd: states told anew, ahead of a known block and behind it: a nil slice as an empty row; a row that is written no more as memory. An abstract machine, part Ve: a call on memory is the same call on an object that is live; known calls on a store that is written out; loops whose rounds lead to states that are told anew. GRAPHS THAT ARE BUILT: what a piece does not touch is hidden from it; two rows of rows at once; pieces whose objects are told with their numbers. Calls that are known on a store that is written out, and change it. Words of the proofs that find their side conditions by themselves. Words that the texts of law11 lean on. guard.list: the words of numbers, a piece of an array that nobody writes to again. Blocks and loops of functions that append to a row. Numbers as bytes. Both ways to put a number. Of guards: names, numbers. Guards, in plain words. Guards: how great, what they hold. Guards: which may be. Guards: which may be; what they hold (net). -/
import Derived.Test.YtfkjfjalecikkaaGreatDC
set_option linter.defProp false
open Go.IntKind (wrap)
noncomputable section
open List (length map range replicate)
set_option maxRecDepth 100000
namespace Go.Am
section
variable{P:Program}{n K:Nat}
structure fH(K:Nat)(L:Loc)(ob:lXE)(L':Loc)(ob':lXE):Prop where
 to: ∀m γ w,Inv m γ ob w-> ∃m' γ',Trans m γ w m' γ' w/\Inv m' γ' ob' w/\(∀o g,o<K->γ o=some g->γ' o=some g)/\(∀k,InG γ' k->InG γ k)/\(∀a,b9 m γ a L->b9 m' γ' a L')
theorem fH.refl(L:Loc)(ob:lXE):fH K L ob L ob:=⟨λm γ w hi=>⟨m,γ,Trans.refl _ _ _,hi,λ_ _ _ h=>h,λ_ h=>h,λ_ h=>h⟩⟩
theorem fH.trans{L L1 L2:Loc}{ob ob1 ob2:lXE}(h:fH K L ob L1 ob1)(k:fH K L1 ob1 L2 ob2):fH K L ob L2 ob2:=⟨λm γ w hi=>by obtain⟨m1,γ1,t1,i1,g1,b1,l1⟩:=h.to m γ w hi;obtain⟨m2,γ2,t2,i2,g2,b2,l2⟩:=k.to m1 γ1 w i1;exact⟨m2,γ2,t1.trans t2,i2,λo g ho hg=>g2 o g ho (g1 o g ho hg),λk hk=>b1 k (b2 k hk),λa ha=>l2 a (l1 a ha)⟩⟩
section
variable{df:Option Nat}{c:Code}{Q:ep}
theorem Tz{L L':Loc}{ob ob':lXE}(h:fH K L ob L' ob')(k:awp df P n K [] c Q L' ob'):awp df P n K [] c Q L ob:=by intro m γ w a hi hl hs hd;obtain⟨m',γ',t1,i1,g1,b1,l1⟩:=h.to m γ w hi;refine wpIn_mono (k m' γ' w a i1 (l1 a hl) hs hd) ?_;rintro e a1 w1 ⟨m1,γ1,L1,ob1,ax,h1,h2,h3,h4,h5,h6,h7,h8⟩;exact⟨m1,γ1,L1,ob1,ax,h1,h2,t1.trans h3,h4,h5,h6,h7,λo g ho hg=>h8 o g ho (g1 o g ho.1 hg)⟩
theorem TA{L0:Loc}{ob0:lXE}(h:awp df P n K [] c (λx L ob=> ∃L' ob',fH K L ob L' ob'/\fI x=true/\Q x L' ob') L0 ob0):awp df P n K [] c Q L0 ob0:=by intro m γ w a hi hl hs hd;refine wpIn_mono (h m γ w a hi hl hs hd) ?_;rintro e a1 w1 ⟨m1,γ1,L1,ob1,ax,⟨L',ob',ht,hp,hq⟩,h2,h3,h4,h5,h6,h7,h8⟩;obtain⟨m2,γ2,t1,i1,g1,b1,l1⟩:=ht.to m1 γ1 w1 h4;refine⟨m2,γ2,L',ob',ax,hq,?_,h3.trans t1,i1,l1 a1 h5,h6,h7.gam b1,λo g ho hg=>g1 o g ho.1 (h8 o g ho hg)⟩;exact afK hp t1.mem h2
end
def gq{c:Code}{L L' L1 L1':Loc}{ob ob' ob1 ob1':lXE}{x:AX}(h:fH K L' ob' L ob)(k:bo P n K c L ob x L1 ob1)(t:fH K L1 ob1 L1' ob1')(hx:fI x=true):bo P n K c L' ob' x L1' ob1':=λdf _ hd hq=>Tz h (TA<|k df _ hd ⟨L1',ob1',t,hx,hq⟩)
def xv{id:Nat}{c:Code}{q:KB}{L0 L1 L2:Loc}{ob0 ob1 ob2:lXE}(h:cx P n K id c q)(t0:fH K L0 ob0 q.L0 q.ob0)(t1:fH K q.L1 q.ob1 L1 ob1)(h1:fI q.x1=true)(t2:fH K q.L2 q.ob2 L2 ob2)(h2:fI q.x2=true):cx P n K id c ⟨L0,ob0,q.hit,q.x1,L1,ob1,q.x2,L2,ob2,q.p⟩:=⟨λhp e=>gq t0 (h.1 hp e) t1 h1,λhp e=>gq t0 (h.2 hp e) t2 h2⟩
section
variable{L L':Loc}{ob:lXE}{T:TypeId}
theorem BW{S:Nat}(hL: ∀t av',lk L' t=some av' ->lk L t=some av' \/(lk L t=some (.v<|.slice none 0 0)/\av' = .sr ob.length S 0 0)):fH K L ob L' (ob++ [.row T S []]):=by
 refine⟨λm γ w hi=> ?_⟩;have hnone:γ ob.length=none:=by
  cases hg:γ ob.length with
  |none=>rfl
  |some g=>exact absurd (hi.len ob.length oaL) (Nat.lt_irrefl _)
 let γ':Gam:=λo=>if o=ob.length then some none else γ o
 have hne: ∀o,o≠ob.length->γ' o=γ o:=λo ho=>by simp only[γ',if_neg ho]
 have heq:γ' ob.length=some none:=by simp only[γ',if_pos]
 have hle:Le m γ [] m γ':=⟨λ_ _ h=>h,λo g hg _=>by
  by_cases ho:o=ob.length
  ·rw[ho,hnone]at hg;cases hg
  ·rw[hne o ho];exact hg⟩
 have hback: ∀o b C,γ' o=some (some (b,C))->γ o=some (some (b,C))/\o≠ob.length:=λo b C hg=>by
  by_cases ho:o=ob.length
  ·rw[ho,heq]at hg;cases hg
  ·rw[hne o ho]at hg;exact⟨hg,ho⟩
 have hobj: ∀o Y,(ob++ [Ob.row T S []])[o]? =some Y->(o<ob.length/\ob[o]? =some Y)\/(o=ob.length/\Y= .row T S []):=λo Y hY=>by
  by_cases h1:o<ob.length
  ·rw[afZ h1]at hY;exact .inl ⟨h1,hY⟩
  ·rw[agl oaa]at hY;cases h2:o-ob.length with
   |zero=>rw[h2]at hY;simp at hY;exact .inr ⟨by omega,hY.symm⟩
   |succ k=>rw[h2]at hY;simp at hY
 refine⟨m,γ',⟨λ_ _ h=>h,λ_ _ h=> .inl h,λq _⟨o,C,h⟩=>⟨o,C,(hback o q C h).1⟩,rfl,rfl,rfl,afP _,λ_ _ _=>rfl⟩,⟨hi.mem,λo Y hY=> ?_,λo o' b C C' l1 l2 h1 h2=> ?_,λo b C h=>hi.dom o b C (hback o b C h).1,λo h=> ?_⟩,λo g _ hg=> ?_,λk⟨o,C,h⟩=>⟨o,C,(hback o k C h).1⟩,λa hl t av' e=> ?_⟩
 ·rcases hobj o Y hY with⟨h1,h2⟩|⟨rfl,rfl⟩
  ·exact fP (hi.obj o Y h2) hle (λ_ _ _=>rfl) (λ_ _ _ _ h=>h)
  ·exact .inl ⟨heq,rfl⟩
 ·have hlv: ∀o b C,γ' o=some (some (b,C))->live (ob++ [Ob.row T S []]) o->live ob o:=by
   rintro o b C hg ⟨Y,hY,hne⟩;rcases hobj o Y hY with⟨_,h2⟩|⟨h1,_⟩
   ·exact⟨Y,h2,hne⟩
   ·exact absurd h1 (hback o b C hg).2
  exact hi.sep o o' b C C' (hlv o b C h1 l1) (hlv o' b C' h2 l2) (hback o b C h1).1 (hback o' b C' h2).1
 ·rw[afQ];by_cases ho:o=ob.length
  ·simp[ho]
  ·rw[hne o ho]at h;have:=hi.len o h;simp;omega
 ·by_cases ho:o=ob.length
  ·rw[ho,hnone]at hg;cases hg
  ·rw[hne o ho];exact hg
 ·rcases hL t av' e with h|⟨h,rfl⟩
  ·exact⟨(hl t av' h).1,vd hle (hl t av' h).2⟩
  ·obtain⟨q1,q2⟩:=hl t _ h;refine⟨q1,?_⟩;have hx:a.tmps.getD t undef= .slice none 0 0:=by simpa [Rep]using q2
   simp only[Rep];exact .inl ⟨heq,⟨none,hx⟩,trivial,trivial⟩
theorem BX{S k:Nat}{rows:List lXF}(hk:k=rows.length)(hK:K<=ob.length)(hL: ∀t av',lk L' t=some av' ->(lk L t=some av'/\av'.und ob.length=true)\/(lk L t=some (.sr ob.length S 0 k)/\av' = .sl S rows/\(AV.sl S rows).und ob.length=true))(hO:ob.all (Ob.und ob.length)=true):fH K L (ob++ [.row T S rows]) L' ob:=by
 refine⟨λm γ w hi=> ?_⟩;have ho:(ob++ [Ob.row T S rows])[ob.length]? =some (.row T S rows):=by simp
 obtain⟨m2,hm,hi2,ht⟩:=iW hi ho (.inl ⟨T,S,rows,rfl⟩);have hset:(ob++ [Ob.row T S rows]).set ob.length .dead=ob++ [.dead]:=by simp
 rw[hset]at hi2;obtain⟨d1,d2⟩:=nD hi2 hO;have hb: ∀o g,(λo=>if o<ob.length then γ o else none) o=some g->γ o=some g:=λo g h=>by
  simp only at h;split at h
  ·exact h
  ·cases h
 refine⟨m2,_,ht.trans ⟨λ_ _ h=>h,λ_ _ h=> .inl h,λk _⟨o,C,h⟩=>⟨o,C,hb o _ h⟩,rfl,rfl,rfl,afP _,λ_ _ _=>rfl⟩,d1,λo g h1 h2=>(if_pos<|show o<ob.length by omega).trans h2,λk⟨o,C,h⟩=>⟨o,C,hb o _ h⟩,λa hl t av' e=> ?_⟩;rcases hL t av' e with⟨h,hu⟩|⟨h,rfl,hu⟩
 ·obtain⟨q1,q2⟩:=hl t _ h;exact⟨q1,d2 _ _ hu (gg hm.le av' _ (AV.eX _) q2)⟩
 ·obtain⟨q1,q2⟩:=hl t _ h;exact⟨q1,d2 _ _ hu (Frz.sr0 rfl hk _ _ _ hm _ q2)⟩
end
end
@[simp] theorem pF: ∀a b:List lXF,ak (a++b)=(ak a&&ak b)
 |[],b=>by simp[ak]
 |x::a,b=>by simp only[agR,ak,pF a b,Bool.and_assoc]
def kx{a:List lXF}(k:Nat)(h:ak a=true):ak (a.take k)=true:=by grind[pF,agG]
def rzA{y:Int}{z len:Nat}(h:y=(z:Int))(h2:Nat.blt z len=true):(dec (y=(z:Int))&&Nat.blt z len)=true:=by rw[aR.2 h,h2];rfl
def joinH{P:Program}{n K:Nat}{id:Nat}{c:Code}{V:VC}(hv:il P n K (.block id c) V){L Lr Lx:Loc}{ob obr obx:lXE}{tv:Bool}{xr xn:AX}{sr sx:lXC}{t:GT}{p:Prop}(h:p->V (en L) (dZ ob) ob.length (ku [⟨tv=true,xr,Lr,sr,obr⟩,⟨tv=false,xn,Lx,sx,obx⟩]) t)(f1:bf.fJ K ⟨tv=true,xr,Lr,sr,obr⟩=true)(f2:bf.fJ K ⟨tv=false,xn,Lx,sx,obx⟩=true):cx P n K id c ⟨L,ob,tv,xr,Lr,obr,xn,Lx,obx,p⟩:=by
 have hf:([⟨tv=true,xr,Lr,sr,obr⟩,⟨tv=false,xn,Lx,sx,obx⟩]:List bf).all (bf.fJ K)=true:=lZ f1 (lZ f2 qY);refine⟨λhp e df Q hd hq=>kv hv (h hp) hf hd λo ho hpo=> ?_,λhp e df Q hd hq=>kv hv (h hp) hf hd λo ho hpo=> ?_⟩
 ·simp only[agq,ag5,or_false]at ho;rcases ho with rfl|rfl
  ·exact hq
  ·have hpo:tv=false:=hpo;have e:tv=true:=e;rw[hpo]at e;cases e
 ·simp only[agq,ag5,or_false]at ho;rcases ho with rfl|rfl
  ·have hpo:tv=true:=hpo;have e:tv=false:=e;rw[hpo]at e;cases e
  ·exact hq
def cAk{P:Program}{c:cj}(hg:c.bS P)(hp:c.p)(a b:lXF)(ha:aj a=true)(hb:aj b=true){l:lXB}(k:cF l=true):cF (c.r.pure::(dec c.p&&dec (c.args=c.args))::(aj a&&true&&aj b)::l)=true:=by obtain⟨_,_,h3⟩:=hg hp;rw[cF,cF,cF,h3,ha,hb,aR.2 hp,aR.2 (rfl:c.args=c.args),k];rfl
def apA{k l n B:Nat}(h1:k<=l)(h2:(k+n)*B<=140737488355328)(h3:k+n<=9223372036854775807):((true&&true&&true&&Nat.ble k l)&&true&&(true&&true&&true&&Nat.ble ((k+n)*B) 140737488355328&&Nat.ble (k+n) 9223372036854775807&&true))=true:=by simp[Nat.ble_eq,h1,h2,h3]
def slA{p q l:Nat}(h1:p<=q)(h2:q<=l):((Nat.ble p q&&Nat.ble q l)&&true)=true:=by simp[Nat.ble_eq,h1,h2]
def ixL{z n:Nat}(h:z<n):(true&&Nat.blt z n)=true:=by simp[Nat.blt_eq,h]
def ixI{x:Int}{n:Nat}(h0:0<=x)(h:x<(n:Int)):(true&&(dec (x=((x.toNat:Nat):Int))&&Nat.blt x.toNat n))=true:=by grind[aR,Nat.blt_eq]
section
variable{α:Type}[Inhabited α]{f0:α->lXF}{l:List α}{rows:List lXF}{S f k z:Nat}
theorem atL(e:rows=l.map f0)(hf:f<S)(h:z<l.length):(dec ((0*S+z*S+f)/S=z)&&(dec ((0*S+z*S+f)%S=f)&&dec (rows[z]? =some (f0<|ae l z))))=true:=by grind[Nat.add_mul_div_right,Nat.div_eq_of_lt,Nat.add_mul_mod_self_right,Nat.mod_eq_of_lt,aR,fC]
theorem stL(e:rows=l.map f0)(hf:f<S)(h:z<l.length)(hk:Nat.ble (f+k) S=true):((true&&(dec ((0*S+z*S+f)/S=z)&&(dec ((0*S+z*S+f)%S=f)&&dec (rows[z]? =some (f0<|ae l z)))))&&Nat.ble (f+k) S)=true:=by rw[atL e hf h,hk];rfl
end
section
variable{α:Type}{l:List α}{rows:List lXF}{k:Nat}
theorem l6{f:α->lXF}(e:rows=l.map f)(z:Nat)(x:α):rows.set z (f x)=(l.set z x).map f:=by rw[e,List.map_set]
def apL{f0:α->lXF}{B:Nat}(e:rows=l.map f0)(h1:k<=l.length)(h2:(k+1)*B<=140737488355328)(h3:k+1<=9223372036854775807):((true&&true&&true&&Nat.ble k rows.length)&&true&&(true&&true&&true&&Nat.ble ((k+1)*B) 140737488355328&&Nat.ble (k+1) 9223372036854775807&&true))=true:=oaz
theorem apF{f:α->lXF}(e:rows=l.map f)(hk:k=l.length)(x:α):rows.take k++ [f x]=(l++ [x]).map f:=by grind[afW]
theorem apT{f:α->lXF}(e:rows=l.map f)(k:Nat)(x:α):rows.take k++ [f x]=(l.take k++ [x]).map f:=by simp_all
theorem Rc{f:α->lXF}(n:Nat)(x:α):replicate n (f x)=(replicate n x).map f:=by simp
end
def dws{k:Nat}(h:1<=k)(h2:k<=9223372036854775807):dec (IntKind.i64.wrap ((k:Int)-1)=((k-1:Nat):Int))=true:=(by grind[aR,wrap_i64])
def mkSl{n B:Nat}(h:B*n<=281474976710656)(h2:n<=maxLen):(true&&true&&Nat.ble n n&&Nat.ble (B*n) 281474976710656&&Nat.ble n maxLen)=true:=by simp_all
def ee:([]:lXE)=[]:=rfl
def aW{a b:Ob}{l m:lXE}(h:a=b)(k:l=m):a::l=b::m:=by rw[h,k]
def lfE(o:bf)(N:Nat)(h:o.p){oba:lXE}(e:oba=o.ob):o.p/\o.x=o.x/\nmS o.sel N o.L=nmS o.sel N o.L/\obS o.sel N oba=obS o.sel N o.ob:=⟨h,rfl,rfl,af1 _ e⟩
def F5(k:KB){S:List (Option AV)}{ob:lXE}(h1:S=nm k.L0)(h2:ob=k.ob0)(hp:k.p):(dec (S=nm k.L0)&&dec (ob=k.ob0)&&dec k.p)=true:=by grind[aR]
section
variable{α:Type}
open Classical in
noncomputable def lC:List α->α->Option Nat
 |[],_=>none
 |x::l,k=>if k=x then some 0 else(lC l k).map (·+1)
noncomputable def Jo(l:List α)(k:α):Nat:=(lC l k).getD 0
theorem Dv{l:List α}{k:α}(h:k∉l):lC l k=none:=by
 induction l with
 |nil=>rfl
 |cons x l ih=>grind[lC]
theorem F6{l:List α}{k:α}(h:k∈l):lC l k=some (Jo l k)/\Jo l k<l.length:=by
 have key: ∃j,lC l k=some j/\j<l.length:=by
  induction l with
  |nil=>simp at h
  |cons x l ih=>
   by_cases e:k=x
   ·simp_all[lC]
   grind[lC]
 grind[Jo]
theorem BY{d:TypeDesc}{f:α->Value}(hf: ∀x y,f x=f y->x=y)(hk: ∀x,fW d (f x)=true)(k:α): ∀l:List α,lQ d (f k) (l.map f)=some (lC l k)
 |[]=>rfl
 |x::l=>by
  obtain⟨r,h1,h2⟩:=Go.MapKept.sameNow_of_keys (fc<|hk k) (fc<|hk x);simp only[af9,lQ,h1,BY hf hk k l,lC];by_cases e:k=x
  ·rw[h2.2 (af1 f e),if_pos e]
  ·have:r=false:=by grind
   subst this;rw[if_neg e];cases lC l x<;>cases lC l k<;>rfl
theorem TB{d:TypeDesc}{f:α->Value}(hf: ∀x y,f x=f y->x=y)(hk: ∀x,fW d (f x)=true)(k:α)(l:List α):Fw d (f k) (l.map f) (lC l k):=⟨hk k,by simp[agc,hk],BY hf hk k l⟩
def tru{α:Type}(_:α):AV:= .v (.bool true)
theorem F7{z:AV}(hz:z= .v (.bool false))(k:α)(l:List α):qH (l.map tru) z (lC l k)=some (.v<|.bool<|dec<|k∈l):=by grind[F6,qH,tru,Dv,dec]
end
def BZ{p:Prop}:dec p=false↔ ¬p:=by grind[aR]
def Re(l:lXD):Ob:= .mp (l.map Value.string) (l.map tru)
def pY(l:lXA):Ob:= .mp (l.map<|Value.int .i64) (l.map tru)
def injS: ∀x y:ByteArray,Value.string x=Value.string y->x=y:=λ_ _ h=>by cases h;rfl
def injI: ∀x y:Int,Value.int .i64 x=Value.int .i64 y->x=y:=λ_ _ h=>by cases h;rfl
def lkS(k:ByteArray)(l:lXD):dec (Fw .string (.string k) (l.map Value.string) (lC l k)/\qH (l.map tru) (.v<|.bool false) (lC l k)=some (.v<|.bool<|dec<|k∈l))=true:=aR.2 ⟨TB injS (λ_=>rfl) k l,F7 rfl k l⟩
def lkI(k:Int)(l:lXA):dec (Fw (.int .i64) (.int .i64 k) (l.map<|Value.int .i64) (lC l k)/\qH (l.map tru) (.v<|.bool false) (lC l k)=some (.v<|.bool<|dec<|k∈l))=true:=aR.2 ⟨TB injI (λ_=>rfl) k l,F7 rfl k l⟩
def nwS{k:ByteArray}{l:lXD}(h:dec (k∈l)=false):dec (Fw .string (.string k) (l.map Value.string) none)=true:=aR.2 (Dv (BZ.1 h)▸TB injS (λ_=>rfl) k l)
def nwI{k:Int}{l:lXA}(h:dec (k∈l)=false):dec (Fw (.int .i64) (.int .i64 k) (l.map<|Value.int .i64) none)=true:=aR.2 (Dv (BZ.1 h)▸TB injI (λ_=>rfl) k l)
def odI{k:Int}{l:lXA}(h:dec (k∈l)=true):dec (Fw (.int .i64) (.int .i64 k) (l.map<|Value.int .i64)<|some<|Jo l k)=true:=aR.2 ((F6<|aR.1 h).1▸TB injI (λ_=>rfl) k l)
theorem TC(k:ByteArray)(l:lXD):Ob.mp (l.map Value.string++ [.string k]) (l.map tru++ [.v (.bool true)])=Re (l++ [k]):=by simp[Re,tru]
theorem nP(k:Int)(l:lXA):Ob.mp (l.map (Value.int .i64)++ [.int .i64 k]) (l.map tru++ [.v (.bool true)])=pY (l++ [k]):=by simp[pY,tru]
theorem Mm{α:Type}(l:List α)(j:Nat):(l.map tru).set j (.v<|.bool true)=l.map tru:=by refine agd λi=> ?_;grind[tru]
theorem TD(j:Nat)(l:lXA):Ob.mp (l.map<|Value.int .i64) ((l.map tru).set j<|.v<|.bool true)=pY l:=by rw[Mm];rfl
theorem pG: ∀a b:lXF,aj (a++b)=(aj a&&aj b)
 |[],b=>by simp[aj]
 |x::a,b=>by simp only[agR,aj,pG a b,Bool.and_assoc]
@[simp] theorem TE{α:Type}(l:List α):aj (l.map tru)=true:=by
 induction l with
 |nil=>rfl
 |cons x l ih=>simp only[af9,aj,tru,AV.pure,ih,agQ]
@[simp] theorem pv_tru1{α:Type}(l:List α):aj (l.map tru++ [.v (.bool true)])=true:=by rw[pG,TE];rfl
@[simp] theorem pv_tru2{α:Type}(l:List α)(j:Nat):aj ((l.map tru).set j<|.v<|.bool true)=true:=by rw[Mm,TE]
section
variable{P:Program}{f:FuncId}{X:Ob}{A A':lXF}{r:AV}
theorem ab3{R:sK->lXE->Prop}(hX:(∃T S rows,X= .row T S rows)\/ ∃Tb cells,X= .box Tb cells)(hF:jv 0 X A' A)(h:lu P f A [] [] R)(hp:aj A=true){m:Mem}{γ:Gam}{w:World}{vs:List Value}(hi:Inv m γ [X] w)(hv:aB m γ A' vs):Calls P f vs.toArray w λe w'=> ∃m' γ' r ob',R r ob'/\mm m' γ' e r/\w'.os=w.os/\w'.tape=w.tape/\w'.output=w.output/\w.heap.size<=w'.heap.size/\(∀k,k<w.heap.size->w'.heap[k]? =w.heap[k]?)/\(∀a x,m a=some x->m' a=some x)/\(∀o b C,γ' o=some (some (b,C))->w.heap.size<=b)/\Inv m' γ' ob' w':=by
 obtain⟨m2,hm,hi2,ht⟩:=iW hi (o:=0) (X:=X) rfl hX;have hv2:aB m2 γ A vs:=hF _ _ _ hm _ hv;obtain⟨d1,d2⟩:=nD (ob:=[]) (xs:=[.dead]) hi2 rfl;have hv3:=d2 (.tu A) (.tuple vs.toArray) (aT 0 _<|by simp[AV.pure,hp]) (by grind[Rep]);simp only[Rep]at hv3;obtain⟨vs',e1,hv4⟩:=hv3;obtain rfl:vs=vs':=by simpa using e1
 have hno: ∀k,¬InG (λo=>if o<([]:lXE).length then γ o else none) k:=λk⟨o,C,h⟩=>by simp at h
 refine(h.2 m2 _ w vs d1 hv4).mono ?_;rintro e w' ⟨m',γ',r0,o0,h1,h2,h3,h4,h5⟩;refine⟨m',γ',r0,o0,h1,h2,h3.os,h3.tape,h3.output,h3.size,λk hk=>h3.blk k hk (hno k),λa x ha=>h3.mem a x (hm.le.mem a x ha),λo b C hg=> ?_,h4⟩;by_cases hb:w.heap.size<=b
 ·exact hb
 ·exact absurd (h3.gam b oaa ⟨o,C,hg⟩) (hno b)
theorem Jp{x:Value}(hX:(∃T S rows,X= .row T S rows)\/ ∃Tb cells,X= .box Tb cells)(hF:jv 0 X A' A)(hp:aj A=true)(h:aY P f A [] [] (.v x) []):aY P f A' [X] [] (.v x) [X]:=by
 refine⟨h.1,λm γ w vs hi hv=>(ab3 hX hF h hp hi hv).mono ?_⟩;rintro e w' ⟨m',γ',r0,o0,⟨rfl,rfl⟩,h2,k1,k2,k3,k4,k5,k6,k7,h4⟩;refine⟨m,γ,_,_,⟨rfl,rfl⟩,?_,⟨λ_ _ h=>h,λ_ _ h=> .inl h,λ_ _ h=>h,k1,k2,k3,k4,λk hk _=>k5 k hk⟩,⟨λa y ha=>h4.mem a y (k6 a y ha),λo Y hY=> ?_,hi.sep,λo b C hg=>agL (hi.dom o b C hg) k4,hi.len⟩,λ_ _ _ h=>h⟩
 ·cases e with
  |returned v=>have h2':Rep m' γ' (.v x) v:=h2;show Rep m γ (.v x) v;simpa only[Rep]using h2'
  |panicked c=>exact h2.elim
  |outgrown=>exact h2.elim
 ·exact fP (hi.obj o Y hY) ⟨λ_ _ h=>h,λ_ _ h _=>h⟩ (λb C hg=>k5 b<|hi.dom o b C hg) (λ_ _ _ _ h=>h)
section
variable{T S k:Nat}{rows:List lXF}
theorem Jq(hX:(∃T S rows,X= .row T S rows)\/ ∃Tb cells,X= .box Tb cells)(hF:jv 0 X A' A)(hp:aj A=true)(h:aY P f A [] [] (.sr 0 S 0 k) [.row T S rows])(hrow: ∀c∈rows.flatten,∃x,c= .v x):aY P f A' [X] [] (.sr 1 S 0 k) [X,.row T S rows]:=by
 refine⟨h.1,λm γ w vs hi hv=>(ab3 hX hF h hp hi hv).mono ?_⟩;rintro e w' ⟨m',γ',r0,o0,⟨rfl,rfl⟩,h2,k1,k2,k3,k4,k5,k6,k7,h4⟩;let γ1:Gam:=λo=>match o with
  |0=>γ 0
  |1=>γ' 0
  |_=>none
 have hkeep: ∀o g,γ o=some g->γ1 o=some g:=λo g hg=>by
  have:=hi.len o oaL;have h0:o=0:=by simpa using this
  subst h0;exact hg
 have hle:Le m γ [] m γ1:=⟨λ_ _ h=>h,λo g hg _=>hkeep o g hg⟩;refine⟨m,γ1,_,_,⟨rfl,rfl⟩,?_,⟨λ_ _ h=>h,λ_ _ h=> .inl h,λj hj⟨o,C,hg⟩=> ?_,k1,k2,k3,k4,λk hk _=>k5 k hk⟩,⟨λa y ha=>h4.mem a y (k6 a y ha),λo Y hY=> ?_,λo o' b C C' l1 l2 g1 g2=> ?_,λo b C hg=> ?_,λo hg=> ?_⟩,λo g _ hg=>hkeep o g hg⟩
 ·cases e with
  |returned v=>have h2':Rep m' γ' (.sr 0 S 0 k) v:=h2;show Rep m γ1 (.sr 1 S 0 k) v;simp only[Rep]at h2' ⊢;exact h2'
  |panicked c=>exact h2.elim
  |outgrown=>exact h2.elim
 ·match o,hg with
  |0,hg=>exact⟨0,C,hg⟩
  |1,hg=>have:=k7 0 j C hg;omega
 ·match o,hY with
  |0,hY=>simp at hY;subst hY;exact fP (hi.obj 0 _ rfl) hle (λb C hg=>k5 b<|hi.dom 0 b C hg) (λ_ _ _ _ h=>h)
  |1,hY=>
   simp at hY;subst hY;rcases h4.obj 0 _ rfl with⟨g1,g2⟩|⟨b,C,xs,g1,g2,g3,g4,g5,g6,g7,g8⟩
   ·exact .inl ⟨g1,g2⟩
   ·refine .inr ⟨b,C,xs,g1,g2,g3,g4,g5,g6,BP hrow g7,λoff=> ?_⟩;cases hm:m ⟨b,off,none⟩with
    |none=>rfl
    |some y=>have:=k6 _ _ hm;rw[g8]at this;cases this
  |o+2,hY=>simp at hY
 ·match o,o',g1,g2 with
  |0,0,_,_=>rfl
  |1,1,_,_=>rfl
  |0,1,g1,g2=>have q1:=hi.dom 0 b C g1;have q2:=k7 0 b C' g2;omega
  |1,0,g1,g2=>have q1:=hi.dom 0 b C' g2;have q2:=k7 0 b C g1;omega
 ·match o,hg with
  |0,hg=>exact agL (hi.dom 0 b C hg) k4
  |1,hg=>exact h4.dom 0 b C hg
 ·match o,hg with
  |0,_=>simp
  |1,_=>simp
  |o+2,hg=>exact absurd rfl hg
theorem Jr(hX:(∃T S rows,X= .row T S rows)\/ ∃Tb cells,X= .box Tb cells)(hF:jv 0 X A' A)(hp:aj A=true)(hXu:X.und 1=true)(h:aY P f A [] [] (.sr 0 S 0 k) [.row T S rows])(hk:k=rows.length)(hrow: ∀c∈rows.flatten,∃x,c= .v x)(hpr:ak rows=true):aY P f A' [X] [] (.sl S rows) [X]:=by
 have h1:=nK (ob2:=[X,.dead]) (Jq hX hF hp h hrow) (o:=1) (X:= .row T S rows) rfl (.inl ⟨_,_,_,rfl⟩) (Frz.sr0 rfl hk) rfl (λi Y Y' e1 e2=>by
  match i with
  |0=>simp at e1 e2;subst e1;subst e2;exact .inr ⟨by omega,.same _⟩
  |1=>simp at e2;exact .inl e2.symm
  |i+2=>simp at e2)
 refine lP (ob':=[X]) (h1.mono λe o hh=>⟨hh.1,[.dead],hh.2⟩) (afP _) (by simp[AV.und,fa _ rows hpr]) ?_;simp[hXu]
end
end
structure m9 where
 f:FuncId
 args:lXF
 ob0:lXE
 r:AV
 p:Prop
def m9.bS(P:Program)(c:m9):Prop:=c.p->qO P c.f c.args c.ob0 c.r c.ob0
noncomputable def Dw(T:List m9)(callf:c9):c9:=λf args O N tm=>match tm.gd with
 | .bG i _::g=>match T[i]? with
  |some c=>cond (Nat.beq f c.f) (.ret c.r O N<|(tm.at N).told g<|dec c.p&&dec (args=c.args/\wL O N 0=c.ob0)) (callf f args O N tm)
  |none=>callf f args O N tm
 |_=>callf f args O N tm
inductive tY(P:Program):List m9->Prop
 |nil:tY P []
 |cons {c:m9} {T:List m9} (h:c.bS P) (t:tY P T):tY P (c::T)
section
variable{P:Program}{n K:Nat}
theorem tY.get: ∀{T:List m9},tY P T-> ∀{i:Nat}{c:m9},T[i]? =some c->c.bS P
 |[],_,i,c,h=>by simp at h
 |d::T,.cons h t,i,c,e=>by
  cases i with
  |zero=>simp at e;subst e;exact h
  |succ i=>exact t.get (by simpa using e)
theorem B0{T:List m9}{callf:c9}(h:tY P T)(hcf:cw P callf):cw P (Dw T callf):=λf args O N tm=>by
 unfold Dw;split
 ·rename_i i r g hg;split
  ·rename_i c hc;cases hf:Nat.beq f c.f with
   |false=>exact hcf f args O N tm
   |true=>have:=afV hf;subst this;simp only[af2];refine⟨λr' O1 N1 t1 e=> ?_,λav O1 N1 t1 e=>by cases e⟩;cases e;refine⟨⟨[_],rfl⟩,λhok ob hO=> ?_⟩;simp only[TM.told,TM.at,cF,afJ]at hok;have k:=(h.get hc) (aR.1 hok.1.1);grind[aR,qN]
  ·exact hcf f args O N tm
 ·exact hcf f args O N tm
theorem qE{c:m9}(hp:c.p){ob:lXE}(e:ob=c.ob0):(dec c.p&&dec (c.args=c.args/\ob=c.ob0))=true:=by grind[aR]
noncomputable def finVO(P:Program)(rs:List ResultVar)(r:AV)(obs:lXE):VK:=λt x M O N=>finV P rs r t x M O N/\(range obs.length).map O.get=obs.map some
theorem Mn{callf:c9}{pu:FuncId->Bool}{lf:Nat}{f:FuncId}{fn:Func}{body:Code}{args:lXF}{r:AV}{obs:lXE}{l:List (Nat×KB)}{t:GT}(hcf:cw P callf)(hm:P.follows .mixedOrders=true)(hf:P.funcs[f]? =some fn)(hname:(fn.name== "runtime.NumGoroutine")=false)(hb:fn.body=some body)(hn:args.length<=fn.ntmps)(hk:qU P fn.ntmps 0 (kbL l) body)(hu:r.und obs.length=true)(ho:obs.all (Ob.und obs.length)=true)(h:vcC P fn.ntmps callf pu lf (kbL l) body (jC 0 args .e) .e 0 (finVO P fn.results.toList r obs) t):aY P f args [] [] r obs:=by
 refine kr hf hname hb hn (agn _) hu ho ?_;refine(gp hcf hm hk).ok h (eM args) bX.nil (.inl rfl) λ{t' x M' O' N' L' ob'} h1 hM hO=> ?_;obtain⟨h1,h2⟩:=h1;obtain⟨xs,e⟩:=BO rfl h2 hO;have aux:Mj r (nh P M' O' fn.results.toList)-> ∃avs,nu P L' ob' fn.results.toList avs/\(sK.ret (fO avs)= .ret r/\ ∃xs,ob'=obs++xs):=λh=>by
  cases hr:nh P M' O' fn.results.toList with
  |none=>rw[hr]at h;exact h.elim
  |some avs=>rw[hr]at h;exact⟨avs,kQ hM hO hr,af1 _ h,xs,e⟩
 cases x with
 |normal=>exact aux h1
 |ret=>exact aux h1
 |_=>exact h1.elim
theorem roE{α:Type}{T S k:Nat}{f:α->lXF}{rows:List lXF}{l r:List α}(e:Ob.row T S rows=Ob.row T S (l.map f))(h:r=l):(AV.sr 0 S 0 k=AV.sr 0 S 0 k)/\([Ob.row T S rows].map some=[Ob.row T S (r.map f)].map some):=⟨rfl,by rw[e,h]⟩
section
variable(t hit:Bool)
def Dx(xr xn:AX)(L1:Loc)(ob1:lXE)(Lr:Loc)(obr:lXE)(Lx:Loc)(obx:lXE)(o:bf):Prop:=o.p->(o.x= .normal/\t=false/\o.L=L1/\o.ob=ob1)\/(t=true/\((hit=true/\o.x=xr/\o.L=Lr/\o.ob=obr)\/(hit=false/\o.x=xn/\o.L=Lx/\o.ob=obx)))
def whW(xr:AX)(Lr:Loc)(sel:lXC)(obr:lXE):bf:=⟨t=true/\hit=true,xr,Lr,sel,obr⟩
def wxW(xn:AX)(Lx:Loc)(sel:lXC)(obx:lXE):bf:=⟨t=true/\hit=false,xn,Lx,sel,obx⟩
end
section
variable{t hit:Bool}{xr xn:AX}
def aaD{L1 La Lr Lx:Loc}{ob1 oba obr obx:lXE}{sel:lXC}:Dx t hit xr xn L1 ob1 Lr obr Lx obx (nxW t L1 ob1 La sel oba):=λh=> .inl ⟨rfl,h.1,h.2.1,h.2.2⟩
section
variable{L1 Lr Lx:Loc}{ob1 obr obx:lXE}{sel:lXC}
def ac9:Dx t hit xr xn L1 ob1 Lr obr Lx obx (whW t hit xr Lr sel obr):=λh=> .inr ⟨h.1,.inl ⟨h.2,rfl,rfl,rfl⟩⟩
def ada:Dx t hit xr xn L1 ob1 Lr obr Lx obx (wxW t hit xn Lx sel obx):=λh=> .inr ⟨h.1,.inr ⟨h.2,rfl,rfl,rfl⟩⟩
end
end
noncomputable def eB{σ:Type}(t:σ->Bool)(it:Nat->σ):Nat:= @dite Nat (∃k,t (it k)=true) (Classical.propDecidable _) (λh=>lB (h.choose+1) λk=>t<|it k) (λ_=>0)
theorem iZ{σ:Type}{t:σ->Bool}{it:Nat->σ}(h: ∃k,t (it k)=true):t (it<|eB t it)=true/\ ∀j,j<eB t it->t (it j)=false:=by unfold eB;rw[dif_pos h];have:=iY (n:=h.choose+1) (t:=λk=>t<|it k) (fD.2 ⟨h.choose,by omega,h.choose_spec⟩);exact⟨this.2.1,this.2.2⟩
theorem adb{id:Nat}{c:Code}{σ:Type}{t hit:σ->Bool}{it:Nat->σ}{step:σ->σ}(hit1: ∀k,it (k+1)=step (it k)){I:σ->Prop}{xr xn:AX}{Lr Lx:σ->Loc}{obr obx:σ->lXE}{V:σ->VC}(L:σ->Loc)(Bs:σ->lXE)(k:Nat)(outs:σ->List bf)(g:σ->GT)(hv: ∀x,I x->il P n K c (V x))(hxr:xr≠ .normal)(hxn:xn≠ .normal)(hk: ∀x,(Bs x).length=k)(h: ∀x,I x->V x (en<|L x) (dZ<|Bs x) k (ku<|outs x) (g x))(hf: ∀x,I x->(outs x).all (bf.fJ K)=true)(hq: ∀x,I x-> ∀o∈outs x,o.p->(o.x= .normal/\t x=false/\o.L=L (step x)/\o.ob=Bs (step x))\/(t x=true/\((hit x=true/\o.x=xr/\o.L=Lr x/\o.ob=obr x)\/(hit x=false/\o.x=xn/\o.L=Lx x/\o.ob=obx x))))(hterm: ∃k,t (it k)=true)(hI: ∀k,k<=eB t it->I (it k)):(hit (it<|eB t it)=true->bo P n K (.block id<|.loop c) (L<|it 0) (Bs<|it 0) (lY id xr) (Lr<|it<|eB t it) (obr<|it<|eB t it))/\(hit (it<|eB t it)=false->bo P n K (.block id<|.loop c) (L<|it 0) (Bs<|it 0) (lY id xn) (Lx<|it<|eB t it) (obx<|it<|eB t it)):=by
 obtain⟨hend,hlt⟩:=iZ hterm;generalize hM:eB t it=M at*;have go: ∀{df:Option Nat}{Q:ep},kL df (.block id<|.loop c)->((hit (it M)=true/\Q (lY id xr) (Lr<|it M) (obr<|it M))\/(hit (it M)=false/\Q (lY id xn) (Lx<|it M) (obx<|it M)))->awp df P n K [] (.block id<|.loop c) Q (L<|it 0) (Bs<|it 0):=λ{df Q} hd hQ=>by
  have hd':kL df c:=hd.imp (λe=>e) λe=>by simpa only[Code.inR]using e
  refine et (ns (λi=>L<|it i) (λi=>Bs<|it i) (λi=>i<=M) (λi=>M-i) 0 (agn _) (Sub.refl _) rfl λi hi=> ?_);refine kv (hv _<|hI i hi) ((hk _).symm▸h _<|hI i hi) (hf _<|hI i hi) hd' λo ho hp=> ?_;rcases hq _ (hI i hi) o ho hp with⟨e1,e2,e3,e4⟩|⟨e1,e2⟩
  ·have hne:i≠M:=λe=>by rw[e,hend]at e2;cases e2
   rw[e1,e3,e4];exact⟨i+1,by omega,by omega,by rw[hit1];exact Sub.refl _,by rw[hit1]⟩
  ·have he:i=M:=by
    by_cases e:i=M
    ·exact e
    ·rw[hlt i oaa]at e1;cases e1
   subst he;have key: ∀x L' ob',x≠ .normal->Q (lY id x) L' ob' ->(match x with| .normal=>False|x=>j8 id Q x L' ob'):=λx L' ob' hx q=>by
    have:=qV (df:=df) (id:=id) (Q:=Q) q;cases x with
    |normal=>exact absurd rfl hx
    |_=>exact this
   rcases e2 with⟨h1,h2,h3,h4⟩|⟨h1,h2,h3,h4⟩
   ·rcases hQ with⟨_,q⟩|⟨q0,_⟩
    ·have:=key o.x o.L o.ob (by rw[h2];exact hxr) (by rw[h2,h3,h4];exact q);revert this;rw[h2];cases xr with
     |normal=>exact absurd rfl hxr
     |_=>exact λq=>q
    ·rw[h1]at q0;cases q0
   ·rcases hQ with⟨q0,_⟩|⟨_,q⟩
    ·rw[h1]at q0;cases q0
    ·have:=key o.x o.L o.ob (by rw[h2];exact hxn) (by rw[h2,h3,h4];exact q);revert this;rw[h2];cases xn with
     |normal=>exact absurd rfl hxn
     |_=>exact λq=>q
 exact⟨λe df Q hd q=>go hd (.inl ⟨e,q⟩),λe df Q hd q=>go hd (.inr ⟨e,q⟩)⟩
end
section
variable{P:Program}{n K:Nat}
theorem F8{df:Option Nat}{Q:ep}{c:Code}{L':Loc}{ob':lXE}{x:AX}(hd:kL df c)(hrf:c.rf=false)(hx:fI x=true)(hq:Q x L' ob'){m:Mem}{γ:Gam}{w:World}{a:Act}{ob2 obc obc':lXE}{sel kk:lXC}{Ls Ls':Loc}{K2:Nat}(hi2:Inv m γ ob2 w)(hs:a.tmps.size=n)(hnd:sel.Nodup)(hlen:sel.length=obc.length)(hsel: ∀(i s:Nat)(X:Ob),sel[i]? =some s->obc[i]? =some X->ob2[s]? =some (X.ren<|bM sel ob2.length)/\X≠ .dead)(hl':obc'.length=sel.length)(hkk: ∀k∈kk,k<sel.length)(hK2: ∀o,o<sel.length->kk.contains o=false->o<K2)(hKk: ∀o,o<K->(kk.map<|bM sel ob2.length).contains o=false)(hlS:b9 m (λi=>γ<|bM sel ob2.length i) a Ls)(hp:bo P n K2 c Ls obc x Ls' obc')(fin: ∀(m1:Mem)(γ':Gam)(w1:World)(a1:Act),Trans m γ w m1 γ' w1->Le m γ (kk.map<|bM sel ob2.length) m1 γ' ->Inv m1 γ' (back ob2 sel kk obc') w1->b9 m1 (λi=>γ'<|bM sel ob2.length i) a1 Ls' ->Inv m1 γ' ob' w1/\b9 m1 γ' a1 L'):c.wpIn (eJ df) 0 P (kK c.rf a.defers K [] n Q m γ w) a w:=by
 have hisel:=ow hi2 hnd hlen hsel;refine wpIn_mono (hp df (λx1 L1 ob1=>x1=x/\L1=Ls'/\ob1=obc') hd ⟨rfl,rfl,rfl⟩ m _ w a hisel hlS hs trivial) ?_;rintro e a1 w1 ⟨m1,γ1,L1,ob1,ax,⟨rfl,rfl,rfl⟩,h2,h3,h4,h5,h6,h7,h8⟩;obtain⟨γ',g1,g2,g3,g4⟩:=lO hi2 (kk:=kk) hnd hlen hsel (by rw[hl'];exact afP _) hkk h3 h4 (λo g ho hg=>by
  by_cases hok:o<sel.length
  ·exact h8 o g ⟨hK2 o hok ho,rfl⟩ hg
  ·exfalso;have:=hi2.len _ (show γ (bM sel ob2.length o)≠none by rw[hg];simp);rw[kN oaa]at this;omega)
 obtain⟨f1,f2⟩:=fin m1 γ' w1 a1 g2 g3 g4 (by rw[show(λi=>γ'<|bM sel ob2.length i)=γ1 from funext g1];exact h5);obtain⟨Ds,d1,d2,_,_⟩:=h7;have hDs:Ds=[]:=by
  rcases d2 with d2|d2
  ·rw[hrf]at d2;cases d2
  ·exact d2
 subst hDs;refine⟨m1,γ',_,_,_,hq,?_,g2,f1,f2,h6,Marks.of_eq (by simpa using d1),λo g ho hg=>g3.gam o g hg (by simpa using hKk o ho.1)⟩;exact afK hx (λ_ _ h=>h) h2
def iR(hs:lXC)(v:Nat->Value)(L:Loc):Loc:=L.map λp=>(p.1,cond (hs.contains p.1) (.v<|v p.1) p.2)
theorem vj(hs:lXC)(v:Nat->Value)(t:Nat): ∀L:Loc,lk (iR hs v L) t=(lk L t).map λav=>cond (hs.contains t) (.v<|v t) av
 |[]=>rfl
 |(s,b)::L=>by
  simp only[iR,af9];rw[dP,dP];by_cases h:s=t
  ·subst h;simp
  ·rw[if_neg h,if_neg h];exact vj hs v t L
theorem Js{c:Code}{L L':Loc}{ob:lXE}{x:AX}(hs:lXC)(hrf:c.rf=false)(hx:fI x=true)(u: ∀t av,lk L t=some av->hs.contains t=true\/av.und 0=true)(u': ∀t av,lk L' t=some av->(hs.contains t=true/\lk L t=some av)\/(hs.contains t=false/\av.und 0=true))(h: ∀v:Nat->Value,bo P n 0 c (iR hs v L) [] x (iR hs v L') []):bo P n K c L ob x L' ob:=by
 intro df Q hd hq m γ w a hi hl hsz ht;refine F8 hd hrf hx hq hi hsz (sel:=[]) (kk:=[]) (obc:=[]) (obc':=[]) (K2:=0) (Ls:=iR hs (λt=>a.tmps.getD t undef) L) (Ls':=iR hs (λt=>a.tmps.getD t undef) L') agW rfl (λi s X h=>by simp at h) rfl oaj (λo h=>by simp at h) (λo _=>rfl) (λt av e=> ?_) (h _) λm1 γ' w1 a1 g2 g3 g4 g5=>⟨by simpa [back,eu,gH]using g4,λt av e=> ?_⟩
 ·rw[vj]at e;cases e1:lk L t with
  |none=>rw[e1]at e;cases e
  |some b=>
   rw[e1]at e;obtain⟨q1,q2⟩:=hl t b e1;refine⟨q1,?_⟩;cases h3:hs.contains t with
   |true=>rw[h3]at e;cases e;simp[Rep]
   |false=>
    rw[h3]at e;cases e;rcases u t _ e1 with h4|h4
    ·rw[h3]at h4;cases h4
    ·refine(eD b _).2 ?_;rw[oG (N:=0) (λ_ h=>by cases h) _ h4];exact q2
 ·rcases u' t av e with⟨h3,e2⟩|⟨h3,h4⟩
  ·obtain⟨p1,p2⟩:=g5 t (.v<|a.tmps.getD t undef) (by rw[vj,e,h3];rfl);obtain⟨q1,q2⟩:=hl t av e2;refine⟨p1,?_⟩;have p3:a1.tmps.getD t undef=a.tmps.getD t undef:=by simpa [Rep]using p2
   rw[p3];exact gg g3 _ _ (AV.eX _) q2
  ·obtain⟨p1,p2⟩:=g5 t av (by rw[vj,e,h3];rfl);refine⟨p1,?_⟩;have:=(eD (m:=m1) (γ:=γ') av _).1 p2;rw[oG (N:=0) (λ_ h=>by cases h) av h4]at this;exact this
end
def bz{α:Type}{p:α->Prop}: ∀x∈([]:List α),p x:=λx h=>by simp at h
def mqc{α:Type}{p:α->Prop}{a:α}{l:List α}(h:p a)(t: ∀x∈l,p x): ∀x∈a::l,p x:=oaz
def bW{P:Program}{n K:Nat}{c:Code}{L L':Loc}{ob:lXE}{x:AX}(hs:lXC)(hrf:c.rf=false)(hx:fI x=true)(u: ∀p∈L,hs.contains p.1=true\/p.2.pure=true)(u': ∀p∈L',(hs.contains p.1=true/\lk L p.1=some p.2)\/(hs.contains p.1=false/\p.2.pure=true))(h: ∀v:Nat->Value,bo P n 0 c (iR hs v L) [] x (iR hs v L') []):bo P n K c L ob x L' ob:=Js hs hrf hx (λ_ _ e=>(u _<|mj e).imp id λh=>aT 0 _ h) (λ_ _ e=>(u' _<|mj e).imp id λh=>⟨h.1,aT 0 _ h.2⟩) h
def s4{K:Nat}{L L':Loc}{ob:lXE}{Tb:TypeId}{cells:lXF}(hK:K<=ob.length)(hL: ∀p∈L',(lk L p.1=some p.2/\p.2.und ob.length=true)\/(lk L p.1=some (.pt ob.length 0)/\p.2= .pf cells/\(AV.pf cells).und ob.length=true))(hO:ob.all (Ob.und ob.length)=true):fH K L (ob++ [.box Tb cells]) L' ob:=by
 refine⟨λm γ w hi=> ?_⟩;have ho:(ob++ [Ob.box Tb cells])[ob.length]? =some (.box Tb cells):=by simp
 obtain⟨m2,hm,hi2,ht⟩:=iW hi ho (.inr ⟨Tb,cells,rfl⟩);have hset:(ob++ [Ob.box Tb cells]).set ob.length .dead=ob++ [.dead]:=by simp
 rw[hset]at hi2;obtain⟨d1,d2⟩:=nD hi2 hO;have hb: ∀o g,(λo=>if o<ob.length then γ o else none) o=some g->γ o=some g:=λo g h=>by
  simp only at h;split at h
  ·exact h
  ·cases h
 refine⟨m2,_,ht.trans ⟨λ_ _ h=>h,λ_ _ h=> .inl h,λk _⟨o,C,h⟩=>⟨o,C,hb o _ h⟩,rfl,rfl,rfl,afP _,λ_ _ _=>rfl⟩,d1,λo g h1 h2=>(if_pos<|show o<ob.length by omega).trans h2,λk⟨o,C,h⟩=>⟨o,C,hb o _ h⟩,λa hl t av' e=> ?_⟩;rcases hL _ (mj e)with⟨h,hu⟩|⟨h,rfl,hu⟩
 ·obtain⟨q1,q2⟩:=hl t _ h;exact⟨q1,d2 _ _ hu (gg hm.le _ _ (AV.eX _) q2)⟩
 ·obtain⟨q1,q2⟩:=hl t _ h;exact⟨q1,d2 _ _ hu (Frz.pt rfl _ _ _ hm _ q2)⟩
def F9{m:Mem}{γ:Gam}{o j:Nat}{Rs:List (List Value)}{Rj:List Value}{xs:List Value}(h:aB m γ (dX o Rs) xs)(hj:Rs[j]? =some Rj):aB m γ ((vs xs).set j<|.sr (o+j) 1 0 Rj.length) xs:=by
 refine dj (by simp[vs]) λi c y hc hy=> ?_;by_cases hij:j=i
 ·subst hij;have hjl:=(afR.1 hy).1;rw[agi oaQ]at hc;cases hc;obtain⟨z,hz,hr⟩:=cd h j (.sr (o+j) 1 0 Rj.length) (by rw[gD,hj];rfl);rw[hy]at hz;cases hz;exact hr
 grind[vs,Rep]
def B3{m m1:Mem}{γ γ1:Gam}{o j:Nat}{Rs:List (List Value)}{R':List Value}{xs ys:List Value}{ks:lXC}(h:aB m γ (dX o Rs) xs)(hjl:j<Rs.length)(hle:Le m γ ks m1 γ1)(hys:aB m1 γ1 ((vs xs).set j<|.sr (o+j) 1 0 R'.length) ys)(hks: ∀i,i<Rs.length->i≠j->ks.contains (o+i)=false):aB m1 γ1 (dX o<|Rs.set j R') ys:=by
 have hxl:xs.length=Rs.length:=by rw[aX h,dU]
 have hyl:ys.length=Rs.length:=by rw[aX hys];simp[vs,hxl]
 refine dj (by rw[dU,age,hyl]) λi c y hc hy=> ?_;rw[gD]at hc;by_cases hij:j=i
 ·subst hij;rw[agi hjl]at hc;cases hc;obtain⟨z,hz,hr⟩:=cd hys j (.sr (o+j) 1 0 R'.length) (agi oaQ);rw[hy]at hz;cases hz;exact hr
 ·rw[af5 hij]at hc;cases hR:Rs[i]? with
  |none=>rw[hR]at hc;cases hc
  |some R=>
   rw[hR]at hc;cases hc;have hil:i<Rs.length:=(afR.1 hR).1;have e1:xs[i]? =some (xs[i]'oaa):=af0 oaa;obtain⟨z,hz,hr⟩:=cd hys i (.v<|xs[i]'oaa) (by grind[vs]);rw[hy]at hz;cases hz;have hr':y=xs[i]'oaa:=by simpa [Rep]using hr
   subst hr';obtain⟨z,hz,hr2⟩:=cd h i (.sr (o+i) 1 0 R.length) (by rw[gD,hR];rfl);grind[gg,AV.free]
section
variable(Ti:TypeId)(o1 o2:Ob)(A B:List (List Value))
def uC:lXE:=(o1::A.map (inner Ti))++(o2::B.map (inner Ti))
theorem eG(i:Nat):(uC Ti o1 o2 A B)[i]? =if i=0 then some o1 else if i<A.length+1 then(A[i-1]?).map (inner Ti)else if i=A.length+1 then some o2 else(B[i-(A.length+2)]?).map (inner Ti):=by unfold uC;grind
theorem qZ:(uC Ti o1 o2 A B).length=A.length+B.length+2:=by simp[uC];omega
end
def eN(T:TypeId)(cs:lXF):Ob:= .row T 1 (aI cs)
def shA(n1:Nat):AV->AV
 | .sr 1 S a b=> .sr (n1+1) S a b
 |av=>av
def shL(n1:Nat)(L:Loc):Loc:=L.map λp=>(p.1,shA n1 p.2)
def nQ:AV->Bool
 | .sr 1 _ _ _=>true
 |_=>false
theorem Dy{n1:Nat}{f:Nat->Nat}(f0:f 0=0)(f1:f 1=n1+1)(av:AV)(h:(nQ av||av.und 1)=true):av.ren f=shA n1 av:=by
 rcases ag3 _ _▸h with h|h
 ·unfold nQ at h;grind[AV.ren,shA]
 ·rw[oG (N:=1) oaz av h];unfold shA;split
  ·simp[AV.und]at h
  ·rfl
theorem Mo(n1 t:Nat): ∀L:Loc,lk (shL n1 L) t=(lk L t).map (shA n1)
 |[]=>rfl
 |(s,b)::L=>by
  simp only[shL,af9];rw[dP,dP];by_cases h:s=t
  ·rw[if_pos h,if_pos h];rfl
  ·rw[if_neg h,if_neg h];exact Mo n1 t L
theorem Jt{p:AV->Bool}{L:Loc}(hu:L.all (λq=>p q.2)=true){t:Nat}{av:AV}(h:lk L t=some av):p av=true:=by
 induction L with
 |nil=>simp[lk]at h
 |cons q L ih=>grind[dP]
section
variable{P:Program}{n:Nat}
set_option maxHeartbeats 1000000 in
theorem Ga {c:Code} {Ls Ls':Loc} {T Ti:TypeId} {R1 R2:List (List Value)} {j k:Nat} {A A' B B':List Value} {x:AX} (hj:R1[j]? =some A) (hk:R2[k]? =some B) (hrf:c.rf=false) (hx:fI x=true)
  (uL:Ls.all (λp=>nQ p.2||p.2.und 1)=true) (uL':Ls'.all (λp=>nQ p.2||p.2.und 1)=true)
  (h: ∀xs ys:List Value,xs.length=R1.length->ys.length=R2.length->bo P n 2 c Ls [eN T ((vs xs).set j<|.sr 2 1 0 A.length),eN T ((vs ys).set k<|.sr 3 1 0 B.length),inner Ti A,inner Ti B] x Ls' [eN T ((vs xs).set j<|.sr 2 1 0 A'.length),eN T ((vs ys).set k<|.sr 3 1 0 B'.length),inner Ti A',inner Ti B']):
  bo P n 0 c (shL R1.length Ls) (cE 0 T Ti R1++cE (R1.length+1) T Ti R2) x (shL R1.length Ls') (cE 0 T Ti (R1.set j A')++cE (R1.length+1) T Ti (R2.set k B')):=by
 intro df Q hd hq m γ w a hi hl hs ht;have hjl:j<R1.length:=(afR.1 hj).1;have hkl:k<R2.length:=(afR.1 hk).1;generalize hn1:R1.length=n1 at*;have hob:cE 0 T Ti R1++cE (n1+1) T Ti R2=uC Ti (eN T<|dX 1 R1) (eN T<|dX (n1+2) R2) R1 R2:=rfl;rw[hob]at hi;obtain⟨xs,hxs,hre⟩:=gm (o:=0) (hi.obj 0 _<|by rw[eG];rfl) (by rw[dU];omega);obtain⟨ys,hys,hre'⟩:=gm (o:=n1+1) (T:=T) (cs:=dX (n1+2) R2) (hi.obj (n1+1) _<|by rw[eG,if_neg oaa,if_neg oaa,if_pos (by rw[hn1])];rfl) (by rw[dU];omega);have hxl:xs.length=n1:=by rw[aX hxs,dU,hn1]
 have hyl:ys.length=R2.length:=by rw[aX hys,dU]
 let o1:Ob:=eN T ((vs xs).set j<|.sr (1+j) 1 0 A.length);let o2:Ob:=eN T ((vs ys).set k<|.sr (n1+2+k) 1 0 B.length);let ob2:=uC Ti o1 o2 R1 R2;have hlen2:ob2.length=n1+R2.length+2:=by rw[qZ,hn1]
 have hi2:Inv m γ ob2 w:=by
  refine lW hi (by rw[hlen2,qZ,hn1]) λi Y hY=> ?_;by_cases hdd:Y= .dead
  ·exact .inl hdd
  ·right;have hY0:=hY;rw[eG]at hY;by_cases h0:i=0
   ·subst h0;rw[if_pos rfl]at hY;cases hY;exact⟨⟨_,by rw[eG];rfl,by simp[eN]⟩,hre _ (F9 hxs hj)⟩
   ·rw[if_neg h0]at hY;by_cases h1:i=n1+1
    ·subst h1;rw[hn1,if_neg oaa,if_pos rfl]at hY;cases hY;exact⟨⟨eN T (dX (n1+2) R2),by rw[eG,if_neg oaa,if_neg oaa,if_pos (by rw[hn1])],by simp[eN]⟩,hre' _ (F9 hys hk)⟩
    ·have e:(uC Ti (eN T<|dX 1 R1) (eN T<|dX (n1+2) R2) R1 R2)[i]? =some Y:=by rw[eG,if_neg h0];rw[hn1,if_neg h1]at hY⊢;exact hY
     exact⟨⟨Y,e,hdd⟩,hi.obj i Y e⟩
 let sel:=[0,n1+1,1+j,n1+2+k];have hnd:sel.Nodup:=by simp only[sel,List.nodup_cons,agq,ag5,or_false,not_or,not_false_eq_true,agW,and_true];omega
 have f0:bM sel ob2.length 0=0:=rfl;have f1:bM sel ob2.length 1=n1+1:=rfl;have f2:bM sel ob2.length 2=1+j:=rfl;have f3:bM sel ob2.length 3=n1+2+k:=rfl;have g0:ob2[0]? =some o1:=by rw[eG];rfl
 have g1:ob2[n1+1]? =some o2:=by rw[eG,if_neg oaa,if_neg oaa,if_pos (by rw[hn1])]
 have g2:ob2[1+j]? =some (inner Ti A):=by rw[eG,if_neg oaa,if_pos oaa,show 1+j-1=j by omega,hj];rfl
 have g3:ob2[n1+2+k]? =some (inner Ti B):=by rw[eG,if_neg oaa,if_neg oaa,if_neg oaa,hn1,show n1+2+k-(n1+2)=k by omega,hk];rfl
 refine F8 hd hrf hx hq hi2 hs (sel:=sel) (kk:=[2,3]) (K2:=2) hnd rfl ?_ rfl (by intro q hq;simp only[agq,ag5,or_false]at hq;show q<4;omega) ?_ (λo ho=>by omega) ?_ (h xs ys hxl hyl) ?_
 ·intro i s X h1 h2
  match i,h1,h2 with
  |0,h1,h2=>cases h1;cases h2;exact⟨g0.trans (by simp only[eN,Ob.ren,ej,fG,mJ,AV.ren,f2,o1]),by simp[eN]⟩
  |1,h1,h2=>cases h1;cases h2;exact⟨g1.trans (by simp only[eN,Ob.ren,ej,fG,mJ,AV.ren,f3,o2]),by simp[eN]⟩
  |2,h1,h2=>cases h1;cases h2;exact⟨g2.trans (by rw[jZ]),by simp[inner]⟩
  |3,h1,h2=>cases h1;cases h2;exact⟨g3.trans (by rw[jZ]),by simp[inner]⟩
  |i+4,h1,_=>simp[sel]at h1
 ·intro o ho hc;have ho:o<4:=ho
  match o,ho,hc with
  |0,_,_=>omega
  |1,_,_=>omega
  |2,_,hc=>simp at hc
  |3,_,hc=>simp at hc
 ·intro t av e;obtain⟨q1,q2⟩:=hl t (shA n1 av) (by rw[Mo,e];rfl);exact⟨q1,(eD av _).2 (by rw[Dy f0 f1 av (Jt (p:=λv=>nQ v||v.und 1) uL e)];exact q2)⟩
 ·intro m1 γ' w1 a1 t1 le1 i1 l1;let o1':Ob:=eN T ((vs xs).set j<|.sr (1+j) 1 0 A'.length);let o2':Ob:=eN T ((vs ys).set k<|.sr (n1+2+k) 1 0 B'.length);generalize hobc:[eN T ((vs xs).set j<|.sr 2 1 0 A'.length),eN T ((vs ys).set k<|.sr 3 1 0 B'.length),inner Ti A',inner Ti B']=obc' at i1;have hobl:obc'.length=4:=by rw[<-hobc];rfl
  have hback:back ob2 sel [2,3] obc'=uC Ti o1' o2' (R1.set j A') (R2.set k B'):=by
   obtain⟨sg1,sg2⟩:=mw (ob:=eu ([2,3].map<|bM sel ob2.length) ob2) (obc:=(obc'.take sel.length).map<|Ob.ren<|bM sel ob2.length) hnd (by rw[afW,agw,hobl];rfl) (λs hs=>by rw[fB,hlen2];simp only[sel,agq,ag5,or_false]at hs;omega);unfold back;rw[List.drop_eq_nil_of_le (by rw[hobl];exact afP _),agM,agA];rw[agv (show obc'.length<=sel.length by rw[hobl];exact afP _)]at sg1 sg2⊢;apply agd;intro i;rw[eG,age,hn1];by_cases h0:i=0
   ·subst h0;refine(sg1 0 0 o1' rfl<|by rw[<-hobc];simp only[af9,agP,eN,Ob.ren,ej,fG,mJ,AV.ren,f2,o1']).trans ?_;rw[if_pos rfl]
   ·rw[if_neg h0];by_cases h1:i=n1+1
    ·subst h1;refine(sg1 1 (n1+1) o2' rfl<|by rw[<-hobc];simp only[af9,List.getElem?_cons_succ,agP,eN,Ob.ren,ej,fG,mJ,AV.ren,f3,o2']).trans ?_;rw[if_neg oaa,if_pos rfl]
    ·rw[if_neg h1];by_cases h2:i=1+j
     ·subst h2;refine(sg1 2 (1+j) (inner Ti A') rfl oaW).trans ?_;rw[if_pos oaa,show 1+j-1=j by omega,agi oaa];rfl
     ·by_cases h3:i=n1+2+k
      ·subst h3;refine(sg1 3 (n1+2+k) (inner Ti B') rfl oaW).trans ?_;rw[if_neg oaa,show n1+2+k-(n1+2)=k by omega,agi hkl];rfl
      ·rw[sg2 i (by simp only[sel,agq,ag5,or_false,not_or];omega),kO];simp only[af9,agM,ob2];rw[eG,if_neg h0,hn1,if_neg h1];by_cases h4:i<n1+1
       ·rw[if_pos h4,if_pos h4,af5 oaa];cases R1[i-1]? with
        |none=>rfl
        |some R=>simp only[af6,pW]
       ·rw[if_neg h4,if_neg h4,af5 oaa];cases R2[i-(n1+2)]? with
        |none=>rfl
        |some R=>simp only[af6,pW]
  rw[hback]at i1;obtain⟨zs,hzs,hre3⟩:=gm (o:=0) (i1.obj 0 _<|by rw[eG];rfl) oaQ;obtain⟨us,hus,hre4⟩:=gm (o:=n1+1) (T:=T) (cs:=(vs ys).set k<|.sr (n1+2+k) 1 0 B'.length) (i1.obj (n1+1) _<|by rw[eG,age,if_neg oaa,if_neg oaa,if_pos (by rw[hn1])];rfl) oaQ;simp only[af9,agM,f2,f3]at le1;have c1:=B3 hxs oaa le1 hzs (R':=A') (λi hi hne=>by simp;omega);have c2:=B3 hys hkl le1 hus (R':=B') (λi hi hne=>by simp;omega);refine⟨?_,λt av e=> ?_⟩
  ·show Inv m1 γ' (uC Ti (eN T<|dX 1<|R1.set j A') (eN T<|dX (n1+2)<|R2.set k B') (R1.set j A')<|R2.set k B') w1;refine lW i1 (by rw[qZ,qZ]) λi Y hY=> ?_;by_cases hdd:Y= .dead
   ·exact .inl hdd
   ·right;rw[eG]at hY;by_cases h0:i=0
    ·subst h0;rw[if_pos rfl]at hY;cases hY;exact⟨⟨_,by rw[eG];rfl,by simp[o1',eN]⟩,hre3 _ c1⟩
    ·rw[if_neg h0,age,hn1]at hY;by_cases h1:i=n1+1
     ·subst h1;rw[if_neg oaa,if_pos rfl]at hY;cases hY;exact⟨⟨o2',by rw[eG,age,if_neg oaa,if_neg oaa,if_pos (by rw[hn1])],by simp[o2',eN]⟩,hre4 _ c2⟩
     ·have e:(uC Ti o1' o2' (R1.set j A')<|R2.set k B')[i]? =some Y:=by rw[eG,if_neg h0,age,hn1,if_neg h1];rw[if_neg h1]at hY;exact hY
      exact⟨⟨Y,e,hdd⟩,i1.obj i Y e⟩
  ·rw[Mo]at e;cases e1:lk Ls' t with
   |none=>rw[e1]at e;cases e
   |some b=>rw[e1]at e;cases e;obtain⟨q1,q2⟩:=l1 t b e1;refine⟨q1,?_⟩;rw[<-Dy f0 f1 b (Jt (p:=λv=>nQ v||v.und 1) uL' e1)];exact(eD b _).1 q2
end
def Rf{m m':Mem}{γ γ':Gam}{o N:Nat}{xs:List Value}(h:aB m γ (replicate N<|.v<|.slice none 0 0) xs)(hg: ∀i,i<N->γ' (o+i)=some none):aB m' γ' (dX o<|replicate N []) xs:=by
 refine dj (by rw[aX h,dU];simp) λi c x hc hx=> ?_;rw[gD,ago]at hc;split at hc
 ·rename_i hiN;cases hc;obtain⟨y,hy,hr⟩:=cd h i (.v<|.slice none 0 0) oaz;grind[Rep]
 ·cases hc
def Mp{m:Mem}{γ:Gam}{w:World}{o o':Nat}{T:TypeId}{N:Nat}(h:iL m γ w o (eN T<|replicate N<|.v<|.slice none 0 0))(hg: ∀i,i<N->γ (o'+i)=some none):iL m γ w o (eN T<|dX o'<|replicate N []):=by
 by_cases hN:N=0
 ·subst hN;exact h
 ·obtain⟨xs,hxs,hre⟩:=gm h oaA;exact hre _ (Rf hxs hg)
def Rg{P:Program}{n:Nat}{L:Loc}{T:TypeId}(Ti:TypeId){n1 n2:Nat}(uL:L.all (λp=>nQ p.2||p.2.und 1)=true):xg P n 0 L [eN T (replicate n1<|.v<|.slice none 0 0),eN T (replicate n2<|.v<|.slice none 0 0)] (shL n1 L) (cE 0 T Ti (replicate n1 [])++cE (n1+1) T Ti (replicate n2 [])):=by
 refine L9 λm γ w hi=> ?_;let f:Nat->Nat:=λi=>if i=0 then 0 else if i=1 then n1+1 else n1+n2+i
 let γ':Gam:=λo=>if o=0 then γ 0 else if o<n1+1 then some none else if o=n1+1 then γ 1 else if o<n1+2+n2 then some none else none
 have f0:f 0=0:=rfl;have f1:f 1=n1+1:=rfl;have e1:γ' (n1+1)=γ 1:=by show(if n1+1=0 then _ else if n1+1<n1+1 then _ else if n1+1=n1+1 then _ else _)=_;rw[if_neg oaa,if_neg oaa,if_pos rfl]
 have hγ:γ=λi=>γ' (f i):=funext λi=>by
  match i with
  |0=>rfl
  |1=>exact e1.symm
  |i+2=>
   have h1:γ (i+2)=none:=by
    cases hg:γ (i+2)with
    |none=>rfl
    |some g=>have:=hi.len (i+2) oaL;simp only[agb,agt]at this;omega
   rw[h1];simp only[γ',f];rw[if_neg (show¬i+2=0 by omega),if_neg (show¬i+2=1 by omega),if_neg oaa,if_neg oaa,if_neg oaa,if_neg oaa]
 have nilr: ∀N,(eN T<|replicate N<|.v<|.slice none 0 0).ren f=eN T (replicate N<|.v<|.slice none 0 0):=λN=>by simp only[eN,Ob.ren,ej];rw[show replicate N (AV.v<|.slice none 0 0)=vs (replicate N<|.slice none 0 0) by simp[vs],mJ]
 have in1: ∀i,i<n1->γ' (1+i)=some none:=λi hi=>by simp only[γ'];rw[if_neg oaa,if_pos oaa]
 have in2: ∀i,i<n2->γ' (n1+2+i)=some none:=λi hi=>by simp only[γ'];rw[if_neg oaa,if_neg oaa,if_neg oaa,if_pos oaa]
 have r1:iL m γ' w 0 (eN T<|dX 1<|replicate n1 []):=by have h0:=hi.obj 0 _ rfl;rw[hγ]at h0;have:=nC.1 h0;rw[nilr,f0]at this;exact Mp this in1
 have r2:iL m γ' w (n1+1) (eN T<|dX (n1+2)<|replicate n2 []):=by have h0:=hi.obj 1 _ rfl;rw[hγ]at h0;have:=nC.1 h0;rw[nilr,f1]at this;exact Mp this in2
 have hob:cE 0 T Ti (replicate n1 [])++cE (n1+1) T Ti (replicate n2 [])=uC Ti (eN T<|dX 1<|replicate n1 []) (eN T<|dX (n1+2)<|replicate n2 []) (replicate n1 []) (replicate n2 []):=rfl;rw[hob];have hget: ∀o Y,(uC Ti (eN T<|dX 1<|replicate n1 []) (eN T<|dX (n1+2)<|replicate n2 []) (replicate n1 [])<|replicate n2 [])[o]? =some Y->(o=0/\Y=eN T (dX 1<|replicate n1 []))\/(o=n1+1/\Y=eN T (dX (n1+2)<|replicate n2 []))\/(γ' o=some none/\Y=inner Ti []):=by
  intro o Y hY;rw[eG,agY]at hY;by_cases h0:o=0
  ·rw[if_pos h0]at hY;cases hY;exact .inl ⟨h0,rfl⟩
  ·rw[if_neg h0]at hY;by_cases h1:o<n1+1
   ·rw[if_pos h1,ago,if_pos oaa]at hY;cases hY;exact .inr (.inr ⟨by simp only[γ'];rw[if_neg h0,if_pos h1],rfl⟩)
   ·rw[if_neg h1]at hY;by_cases h2:o=n1+1
    ·rw[if_pos h2]at hY;cases hY;exact .inr (.inl ⟨h2,rfl⟩)
    ·rw[if_neg h2,ago]at hY;split at hY
     ·cases hY;exact .inr (.inr ⟨by simp only[γ'];rw[if_neg h0,if_neg h1,if_neg h2,if_pos oaa],rfl⟩)
     ·cases hY
 have hback: ∀o b C,γ' o=some (some (b,C))->(o=0/\γ 0=some (some (b,C)))\/(o=n1+1/\γ 1=some (some (b,C))):=λo b C hg=>by
  simp only[γ']at hg;split at hg
  ·rename_i h;exact .inl ⟨h,hg⟩
  ·split at hg
   ·cases hg
   ·split at hg
    ·rename_i h;exact .inr ⟨h,hg⟩
    ·split at hg<;>cases hg
 have lv0:live [eN T (replicate n1<|.v<|.slice none 0 0),eN T (replicate n2<|.v<|.slice none 0 0)] 0:=⟨_,rfl,by simp[eN]⟩;have lv1:live [eN T (replicate n1<|.v<|.slice none 0 0),eN T (replicate n2<|.v<|.slice none 0 0)] 1:=⟨_,rfl,by simp[eN]⟩;refine⟨m,γ',⟨λ_ _ h=>h,λ_ _ h=> .inl h,λq _⟨o,C,h⟩=> ?_,rfl,rfl,rfl,afP _,λ_ _ _=>rfl⟩,⟨hi.mem,λo Y hY=> ?_,λo o' b C C' _ _ h1 h2=> ?_,λo b C h=> ?_,λo h=> ?_⟩,λo ho=>by omega,λa hl t av e=> ?_⟩
 ·rcases hback o q C h with⟨_,h⟩|⟨_,h⟩
  ·exact⟨0,C,h⟩
  ·exact⟨1,C,h⟩
 ·rcases hget o Y hY with⟨rfl,rfl⟩|⟨rfl,rfl⟩|⟨h1,rfl⟩
  ·exact r1
  ·exact r2
  ·exact .inl ⟨h1,rfl⟩
 ·rcases hback o b C h1 with⟨rfl,g1⟩|⟨rfl,g1⟩<;>rcases hback o' b C' h2 with⟨rfl,g2⟩|⟨rfl,g2⟩
  ·rfl
  ·exact absurd (hi.sep 0 1 b C C' lv0 lv1 g1 g2) oaa
  ·exact absurd (hi.sep 1 0 b C C' lv1 lv0 g1 g2) oaa
  ·rfl
 ·rcases hback o b C h with⟨_,h⟩|⟨_,h⟩
  ·exact hi.dom 0 b C h
  ·exact hi.dom 1 b C h
 ·rw[qZ,agY,agY];simp only[γ']at h;split at h
  ·omega
  ·split at h
   ·omega
   ·split at h
    ·omega
    ·split at h
     ·omega
     ·exact absurd rfl h
 ·rw[Mo]at e;cases e1:lk L t with
  |none=>rw[e1]at e;cases e
  |some b=>rw[e1]at e;cases e;obtain⟨q1,q2⟩:=hl t b e1;refine⟨q1,?_⟩;rw[hγ]at q2;have:=(eD b _).1 q2;rw[Dy f0 f1 b (Jt (p:=λv=>nQ v||v.und 1) uL e1)]at this;exact this
def nR{K:Nat}{L L':Loc}{base:lXE}{T Ti:TypeId}{Rs:List (List Value)}(hK:K<=base.length)(ub:base.all (Ob.und base.length)=true)(hL: ∀t av',lk L' t=some av' ->(lk L t=some av'/\av'.und base.length=true)\/(lk L t=some (.sr base.length 1 0 Rs.length)/\av' = .sl 1 (aI<|jI Rs))):fH K L (base++cE base.length T Ti Rs) L' base:=⟨λm γ w hi=>by obtain⟨m',γ',h1,h2,h3,h4,h5⟩:=Q7 hK ub hL m γ w hi;grind⟩
section
variable{σ:Type}(step:Nat->Nat->σ->σ)(len:Nat->Nat)
def inF(i:Nat)(s:σ)(k:Nat):σ:=Nat.rec (motive:=λ_=>σ) s (λk s=>step i k s) k
def im(s:σ)(i:Nat):σ:=Nat.rec (motive:=λ_=>σ) s (λi s=>inF step i s<|len i) i
variable {step len} {P:Program} {n K:Nat}
theorem pZ{a d b:Nat}{A C B1 B2 cb E:Code}{S:σ->lXE}{m:Nat}{I:Nat->Nat->σ->Prop}{La Lb Lc Ld Lf:Nat->Loc}{Le:Nat->Nat->Loc}{Lbx Lx:Loc}{s0:σ}(pA: ∀i,i<m-> ∀ob,bo P n K A (La i) ob .normal (Lb i) ob)(pC: ∀i,i<m-> ∀ob,bo P n K C (Lb i) ob .normal (Lc i) ob)(pB1: ∀i,i<m-> ∀ob,bo P n K B1 (Lc i) ob .normal (Ld i) ob)(pB2: ∀i,i<m-> ∀ob,bo P n K B2 (Ld i) ob .normal (Le i 0) ob)(pin: ∀i k s,i<m->k<len i->I i k s->bo P n K cb (Le i k) (S s) .normal (Le i<|k+1) (S<|step i k s)/\I i (k+1) (step i k s))(pinx: ∀i,i<m-> ∀ob,bo P n K cb (Le i<|len i) ob (.exit b) (Lf i) ob)(pE: ∀i,i<m-> ∀ob,bo P n K E (Lf i) ob .normal (La<|i+1) ob)(pAx: ∀ob,bo P n K A (La m) ob .normal Lbx ob)(pCx: ∀ob,bo P n K C Lbx ob (.exit a) Lx ob)(i0:I 0 0 s0)(iN: ∀i s,i<m->I i (len i) s->I (i+1) 0 s):bo P n K (.block a<|.loop<|.seq A<|.seq C<|.seq (.block d<|.seq B1<|.seq B2<|.block b<|.loop cb) E) (La 0) (S s0) .normal Lx (S<|im step len s0 m):=by
 have inI: ∀i s,i<m->I i 0 s-> ∀k,k<=len i->I i k (inF step i s k):=λi s hi h k=>by
  induction k with
  |zero=>exact λ_=>h
  |succ k ih=>exact λhk=>(pin i k _ hi oaa<|ih oaa).2
 have outI: ∀i,i<=m->I i 0 (im step len s0 i):=λi=>by
  induction i with
  |zero=>exact λ_=>i0
  |succ i ih=>exact λhi=>iN i _ oaa (inI i _ oaa (ih oaa) _<|afP _)
 have inner: ∀i,i<m->bo P n K (.block b<|.loop cb) (Le i 0) (S<|im step len s0 i) .normal (Lf i) (S<|im step len s0<|i+1):=λi hi=>by
  refine xj (λk=>Le i k) (λk=>S<|inF step i (im step len s0 i) k) (λk=>k<=len i) (λk=>len i-k) 0 (agn _) λk hk=> ?_;by_cases hkl:k<len i
  ·exact .inl ⟨k+1,by omega,by omega,(pin i k _ hi hkl<|inI i _ hi (outI i oaa) k hk).1⟩
  ·obtain rfl:k=len i:=by omega
   exact .inr (pinx i hi _)
 refine xj (λi=>La i) (λi=>S<|im step len s0 i) (λi=>i<=m) (λi=>m-i) 0 (agn _) λi hi=> ?_;by_cases him:i<m
 ·exact .inl ⟨i+1,by omega,by omega,ey (pA i him _) (ey (pC i him _)<|ey (nL<|ey (pB1 i him _)<|ey (pB2 i him _)<|inner i him)<|pE i him _)⟩
 ·obtain rfl:i=m:=by omega
  exact .inr (ey (pAx _)<|mI (pCx _) oaj)
end
structure iq where
 p:Prop
 x:AX
 L:Loc
 sel:lXC
 N:Nat
 ob:lXE
 obR:lXE
def iq.ends(o:iq)(x:AX)(M:Tri AV)(O:Tri Ob)(N:Nat):Prop:=o.p/\x=o.x/\N=o.N/\(o.L.map λp=>M.get p.1)=nmS o.sel o.N o.L/\o.sel.map O.get=o.obR.map some
def iq.fJ(K:Nat)(o:iq):Prop:=fI o.x=true/\mG o.sel=true/\(range K).all (λi=>o.sel[i]? ==some i)=true/\o.L.all (λp=>plS p.2)=true/\o.obR=o.ob.map (Ob.ren<|bM o.sel o.N)
def nS{K:Nat}{o:iq}(h1:fI o.x=true)(h2:mG o.sel=true)(h3:(range K).all (λi=>o.sel[i]? ==some i)=true)(h4:o.L.all (λp=>plS p.2)=true)(h5:o.obR=o.ob.map (Ob.ren<|bM o.sel o.N)):o.fJ K:=⟨h1,h2,h3,h4,h5⟩
def s5{K:Nat}: ∀o∈([]:List iq),o.fJ K:=λo h=>by simp at h
def eP{K:Nat}{o:iq}{l:List iq}(h:o.fJ K)(t: ∀o∈l,o.fJ K): ∀o'∈o::l,o'.fJ K:=λo' ho=>by
 rcases agq.1 ho with rfl|ho
 ·exact h
 ·exact t o' ho
def xw{p:iq->Prop}: ∀o∈([]:List iq),p o:=λo h=>by simp at h
def fE{p:iq->Prop}{o:iq}{l:List iq}(h:p o)(t: ∀o∈l,p o): ∀o'∈o::l,p o':=oaz
section
variable{xs:List Value}{j:Nat}{c:AV}{rows:List lXF}{k:Nat}
theorem atN(e:rows=aI ((vs xs).set j c))(h:j<xs.length):(dec ((0*1+j*1+0)/1=j)&&(dec ((0*1+j*1+0)%1=0)&&dec (rows[j]? =some [c])))=true:=by grind[aR,aI,vs]
theorem stN(e:rows=aI ((vs xs).set j c))(h:j<xs.length):((true&&(dec ((0*1+j*1+0)/1=j)&&(dec ((0*1+j*1+0)%1=0)&&dec (rows[j]? =some [c]))))&&Nat.ble (0+1) 1)=true:=by rw[atN e h];rfl
theorem oW(e:rows=aI ((vs xs).set j c))(c':AV):rows.set j [c']=aI ((vs xs).set j c'):=by rw[e,Q6,List.set_set]
theorem ff{f:Nat->Nat}{T:TypeId}{o z:Nat}{q:Nat}(h:f o=q):(Ob.row T 1<|aI<|(vs xs).set j<|.sr o 1 0 z).ren f= .row T 1 (aI<|(vs xs).set j<|.sr q 1 0 z):=by grind[Ob.ren,ej,fG,mJ,AV.ren]
theorem cv{f:Nat->Nat}{T:TypeId}{S:Nat}{r:List lXF}(h:ak r=true):(Ob.row T S r).ren f= .row T S r:=by simp only[Ob.ren];rw[ia (N:=0) (λ_ h=>by cases h) r (fa 0 r h)]
end
def TF(l:List iq):VK:=λt x M O N=>match t with
 | .pick j=>match l[j]? with
  |some o=>o.ends x M O N
  |none=>False
 |_=>False
def lfN(o:iq)(h:o.p){oba:lXE}(e:oba=o.obR):o.p/\o.x=o.x/\o.N=o.N/\nmS o.sel o.N o.L=nmS o.sel o.N o.L/\oba.map some=o.obR.map some:=⟨h,rfl,rfl,rfl,af1 _ e⟩
def iq.view{K:Nat}{o:iq}(hf:o.fJ K){x:AX}{M:Tri AV}{O:Tri Ob}{N:Nat}(h:o.ends x M O N){L1:Loc}{ob1:lXE}(hM:cJ M L1)(hO:bX O N ob1):L8 K L1 ob1 o.L o.ob o.sel/\fI x=true/\x=o.x:=by
 obtain⟨f1,f2,f3,f4,f5⟩:=hf;obtain⟨_,rfl,rfl,h1,h2⟩:=h;have hl1:ob1.length=o.N:=hO.1;have h1':(o.L.map (·.1)).map M.get=ni (bM o.sel o.N) o.L:=by rw[List.map_map];refine h1.trans (agU λp hp=> ?_);grind[Dt]
 have h2':o.sel.map O.get=(o.ob.map λX=>X.ren<|bM o.sel o.N).map some:=by rw[h2,f5]
 refine⟨⟨ju f2,?_,λi s X hi hX=> ?_,λi hi=> ?_,λt av e=> ?_⟩,f1,rfl⟩
 ·have:=af1 length h2';simpa using this
 ·have e1:(o.sel.map O.get)[i]? =some (O.get s):=by rw[afY,hi];rfl
  rw[h2',afY,afY,hX]at e1;simp only[af6,afM]at e1;exact⟨_,by rw[<-hO.2];exact e1.symm,by rw[hl1];exact .same _⟩
 ·simp_all
 ·rw[<-hM t,hl1];exact lV h1' t av e
def Ju{P:Program}{n K:Nat}{c:Code}{V:VC}(hv:il P n K c V){L L':Loc}{ob ob':lXE}{x:AX}{l:List iq}{t:GT}(h:V (en L) (dZ ob) ob.length (TF l) t)(hf: ∀o∈l,o.fJ K)(hw: ∀o∈l,o.p->o.x=x/\o.L=L'/\o.ob=ob'):bo P n K c L ob x L' ob':=by
 intro df Q hd hq;refine oE (hv.ok h (iB L) (fQ ob) hd λ{t' x' M' O' N' L1 ob1} h1 hM hO=> ?_);cases t' with
 |pick j=>
  simp only[TF]at h1;split at h1
  ·rename_i o ho;have hm:=agy ho;obtain⟨v,w,rfl⟩:=iq.view (hf o hm) h1 hM hO;obtain⟨rfl,rfl,rfl⟩:=hw o hm h1.1;exact⟨o.L,o.ob,o.sel,v,w,hq⟩
  ·exact h1.elim
 |_=>exact h1.elim
structure xx where
 f:FuncId
 args:lXF
 ob0:lXE
 r:AV
 ob1:lXE
 p:Prop
def xx.bS(P:Program)(c:xx):Prop:=c.p->qO P c.f c.args c.ob0 c.r c.ob1
inductive Gb(P:Program):List xx->Prop
 |nil:Gb P []
 |cons {c:xx} {T:List xx} (h:c.bS P) (t:Gb P T):Gb P (c::T)
section
variable{P:Program}
theorem Gb.get: ∀{T:List xx},Gb P T-> ∀{i:Nat}{c:xx},T[i]? =some c->c.bS P
 |[],_,i,c,h=>by simp at h
 |d::T,.cons h t,i,c,e=>by
  cases i with
  |zero=>simp at e;subst e;exact h
  |succ i=>exact t.get (by simpa using e)
def TG(L:Loc):List ResultVar->Option lXF
 |[]=>some []
 | .tmp t::rs=>match lk L t,TG L rs with
  |some av,some avs=>some (av::avs)
  |_,_=>none
 | .cell _ _::_=>none
theorem Mq{P:Program}{L:Loc}{ob:lXE}: ∀{rs:List ResultVar}{avs:lXF},TG L rs=some avs->nu P L ob rs avs
 |[],avs,h=>by simp only[TG,afM]at h;subst h;exact .nil
 | .tmp t::rs,avs,h=>by
  simp only[TG]at h;split at h
  ·rename_i h1 h2;cases h;exact .tmp h1 (Mq h2)
  ·cases h
 | .cell _ _::_,_,h=>by cases h
theorem cZ{α:Type}{n0:Nat}{callf:c9}{pu:FuncId->Bool}{lf:Nat}{f:FuncId}{fn:Func}{body:Code}{args:lXF}{ob0:lXE}{avs:lXF}{l:List (Nat×KB)}{t:GT}(hcf:cw P callf)(hm:P.follows .mixedOrders=true)(hf:P.funcs[f]? =some fn)(hname:(fn.name== "runtime.NumGoroutine")=false)(hb:fn.body=some body)(hn:args.length<=fn.ntmps)(hk:qU P fn.ntmps ob0.length (kbL l) body)(e0:ob0.length=n0)(Lj:α->Loc)(Oj:α->lXE)(x:α)(ws:List (α×AX×lXC))(hl:ob0.length<=(Oj x).length)(hu:(fO avs).und (Oj x).length=true)(ho:(Oj x).all (Ob.und (Oj x).length)=true)(h:vcC P fn.ntmps callf pu lf (kbL l) body (jC 0 args .e) (dZ ob0) n0 (ku<|ws.map λw=>⟨x=w.1,w.2.1,Lj w.1,w.2.2,Oj w.1⟩) t)(hx: ∀w∈ws,w.2.1= .normal\/w.2.1= .ret)(hw: ∀w∈ws,bf.fJ ob0.length ⟨x=w.1,w.2.1,Lj w.1,w.2.2,Oj w.1⟩=true)(hr:TG (Lj x) fn.results.toList=some avs):aY P f args ob0 [] (fO avs) (Oj x):=by
 subst e0;refine kr hf hname hb hn hl hu ho ?_;refine oE ((gp hcf hm hk).ok h (eM args) (fQ ob0) (.inl rfl) λ{t' x' M' O' N' L' ob'} h1 hM hO=> ?_);cases t' with
 |pick j=>
  simp only[ku]at h1;split at h1
  ·rename_i o hoj;have hm':=agy hoj;obtain⟨w,hwm,rfl⟩:=agm.1 hm';obtain⟨v,hpl,hxe⟩:=bf.view (hw w hwm) h1 hM hO;have hxv:x=w.1:=h1.1;subst hxv;refine⟨_,_,_,v,hpl,?_⟩;have key: ∃avs',nu P (Lj w.1) (Oj w.1) fn.results.toList avs'/\(sK.ret (fO avs')= .ret (fO avs)/\ ∃xs,Oj w.1=Oj w.1++xs):=⟨avs,Mq hr,rfl,[],by simp⟩;rcases hx w hwm with e|e
   ·rw[hxe];show Bn P fn _ w.2.1 _ _;rw[e];exact key
   ·rw[hxe];show Bn P fn _ w.2.1 _ _;rw[e];exact key
  ·exact h1.elim
 |_=>exact h1.elim
end
def rl{α:Type}(f:α->lXF)(l:List α):l.map f=l.map f:=rfl
section
variable{α:Type}[Inhabited α]
theorem rwz(f:α->lXF)(l:List α)(s:Int)(h0:0<=s:=by omega)(h:s<(((l.map f).length:Nat):Int):=by omega):(dec (s=((s.toNat:Nat):Int))&&dec ((l.map f)[s.toNat]? =some (f<|aF l s)))=true:=FZ (afT h0) (afT h)
theorem rwa(f:α->lXF)(l:List α)(i:Nat)(h:i<l.length:=by omega):dec ((l.map f)[i]? =some (f<|ae l i))=true:=qS h
variable{f0:α->lXF}{l:List α}{rows:List lXF}
theorem ato(S f z:Nat)(e:rows=l.map f0)(h:z<l.length:=by omega)(hf:f<S:=by decide):(dec ((0*S+z*S+f)/S=z)&&(dec ((0*S+z*S+f)%S=f)&&dec (rows[z]? =some (f0<|ae l z))))=true:=atL e hf h
theorem sto(S f k z:Nat)(e:rows=l.map f0)(h:z<l.length:=by omega)(hf:f<S:=by decide)(hk:Nat.ble (f+k) S=true:=by rfl):((true&&(dec ((0*S+z*S+f)/S=z)&&(dec ((0*S+z*S+f)%S=f)&&dec (rows[z]? =some (f0<|ae l z)))))&&Nat.ble (f+k) S)=true:=stL e hf h hk
end
def apo{α:Type}{f0:α->lXF}{l:List α}{rows:List lXF}(k B:Nat)(e:rows=l.map f0)(h1:k<=l.length:=by first|omega|(simp only[afW,age,afQ,agw,agb,agt];omega))(h2:(k+1)*B<=140737488355328:=by omega)(h3:k+1<=9223372036854775807:=by omega):((true&&true&&true&&Nat.ble k rows.length)&&true&&(true&&true&&true&&Nat.ble ((k+1)*B) 140737488355328&&Nat.ble (k+1) 9223372036854775807&&true))=true:=apL e h1 h2 h3
def ixo(z n:Nat)(h:z<n:=by omega):(true&&Nat.blt z n)=true:=ixL h
def ixz(x:Int)(n:Nat)(h0:0<=x:=by omega)(h:x<(n:Int):=by omega):(true&&(dec (x=((x.toNat:Nat):Int))&&Nat.blt x.toNat n))=true:=ixI h0 h
def dwo(z:Int)(h0: -9223372036854775808<=z:=by omega)(h1:z<=9223372036854775807:=by omega):dec (IntKind.i64.wrap z=z)=true:=dwr h0 h1
def dso(k:Nat)(h:1<=k:=by omega)(h2:k<=9223372036854775807:=by omega):dec (IntKind.i64.wrap ((k:Int)-1)=((k-1:Nat):Int))=true:=dws h h2
def mko(n B:Nat)(h:B*n<=281474976710656:=by omega)(h2:n<=9223372036854775807:=by omega):(true&&true&&Nat.ble n n&&Nat.ble (B*n) 281474976710656&&Nat.ble n maxLen)=true:=mkSl h h2
def slo(p q l:Nat)(h1:p<=q:=by omega)(h2:q<=l:=by omega):((Nat.ble p q&&Nat.ble q l)&&true)=true:=slA h1 h2
def nxP{σ:Type}{t:Bool}(La:σ->Loc)(Oa:σ->lXE){a v:σ}(h:t=false)(e:a=v):t=false/\La v=La a/\Oa v=Oa a:=by rw[e];exact⟨h,rfl,rfl⟩
end Go.Am
set_option linter.defProp false
namespace Go.Proofs.YtfkjfjalecikkaaGreat
open Go.Am
attribute [simp] kS oI lX mK mL kT BU qT F0
@[simp] theorem pr_range(l:List (Int×Int)):ak (l.map aP)=true:=bc kS l
@[simp] theorem pr_act(l:List (Int×Int)):ak (l.map cO)=true:=bc oI l
@[simp] theorem ade(l:lXD):ak (l.map a9)=true:=bc lX l
@[simp] theorem pr_rule(l:List bI):ak (l.map aC)=true:=bc mK l
@[simp] theorem pr_edge(l:List Edge):ak (l.map aQ)=true:=bc mL l
@[simp] theorem pr_state(l:List State):ak (l.map aq)=true:=bc kT l
@[simp] theorem pr_g(l:List G):ak (l.map gC)=true:=bc qT l
@[simp] theorem afG(n:Net):(jD n).pure=true:=by simp[jD,AV.pure]
@[simp] theorem pl_g(g:G):(gCC g).all plS=true:=by simp[gCC,plS,AV.pure]
@[simp] theorem pl_s(s:State):(aq s).all plS=true:=by simp[aq,plS,AV.pure]
@[simp] theorem pl_r(r:bI):(aC r).all plS=true:=by simp[aC,plS,AV.pure]
def rowG{l:List G}{i:Nat}(h:i<l.length):dec ((l.map gC)[i]? =some (gCC<|ae l i))=true:=by rw[Jj];exact qS h
def iP(l:List G)(i:Nat)(h:i<l.length:=by omega):dec ((l.map gC)[i]? =some (gCC<|ae l i))=true:=rowG h
def ixB(s:ByteArray)(i:Nat)(h:i<s.size):dec (IxP Tryz.prog 9 (.string s) (.int .i64 i)<|.int .u8<|dh s i)=true:=aR.2 (ixs s i h)
noncomputable def oM(id:Nat)(c:Code):Code:=(Ts id c).getD .skip
attribute [simp] nxW htW whW wxW plS plO Re pY AV.pure aj ak
noncomputable def ntOf(f:Nat):Nat:=match Tryz.prog.funcs[f]? with
 |some fn=>fn.ntmps
 |none=>0
noncomputable def rsOf(f:Nat):List ResultVar:=match Tryz.prog.funcs[f]? with
 |some fn=>fn.results.toList
 |none=>[]
noncomputable def fnOk(f m:Nat):Bool:=match Tryz.prog.funcs[f]? with
 |some fn=> !(fn.name== "runtime.NumGoroutine")&&(fn.body.isSome&&Nat.ble m fn.ntmps)
 |none=>false
def Rh{f m:Nat}(h:fnOk f m=true): ∃fn,Tryz.prog.funcs[f]? =some fn/\(fn.name== "runtime.NumGoroutine")=false/\fn.body=some (aG f)/\m<=fn.ntmps/\ntOf f=fn.ntmps/\rsOf f=fn.results.toList:=by
 unfold fnOk ntOf rsOf aG at*;revert h;cases Tryz.prog.funcs[f]? with
 |none=>exact λh=>by cases h
 |some fn=>
  intro h;have h1:=(afJ _ _).mp h;have h2:=(afJ _ _).mp h1.2;refine⟨fn,rfl,(af3 _).mp h1.1,?_,nbl h2.2,rfl,rfl⟩;have h3:=h2.1;show fn.body=some (match fn.body with
   |some c=>c
   |none=> .skip)
  revert h3;cases fn.body with
  |none=>exact λh=>by cases h
  |some c=>exact λ_=>rfl
section
variable{callf:c9}{args:lXF}{r:AV}{l:List (Nat×KB)}
theorem aV(f:Nat)(t:GT){A:Prop}(h:A)(hc:cw Tryz.prog callf:=by exact aE)(hk:qU Tryz.prog (ntOf f) 0 (kbL l) (aG f):=by exact bq _)(hu:r.und 0=true:=by rfl)(hF:fnOk f args.length=true:=by kernel_rfl)
  (e:A=vcC pg (ntOf f) callf cU 3000 (kbL l) (aG f) (jC 0 args .e) .e 0 (finV Tryz.prog (rsOf f) r) t:=by kernel_rfl):aY pg f args [] [] r []:=by
 obtain⟨fn,h1,h2,h3,h4,h5,h6⟩:=Rh hF;rw[h5]at hk e;rw[h6]at e;exact ac7 (pu:=cU) (lf:=3000) (l:=l) (t:=t) hc mixed h1 h2 h3 h4 hk hu (e▸h)
end
section
variable(id m:Nat)(t:Nat->Bool)(L:Nat->Am.Loc)(O:Nat->lXE)
noncomputable def anKP(xr:Nat->AX)(Lr:Nat->Am.Loc)(Or:Nat->lXE)(xn:AX)(Lx:Am.Loc)(Ox:lXE)(p:Prop):KB:=⟨L 0,O 0,dA m t,lY id (xr<|lB m t),Lr (lB m t),Or (lB m t),lY id xn,Lx,Ox,p⟩
noncomputable def anK(xr:AX)(Lr:Nat->Am.Loc)(Or:Nat->lXE)(xn:AX)(Lx:Am.Loc)(Ox:lXE)(p:Prop):KB:=anKP id m t L O (λ_=>xr) Lr Or xn Lx Ox p
end
noncomputable def noK(id:Nat)(L:Nat->Am.Loc)(O:Nat->lXE)(xn:AX)(Lx:Am.Loc)(Ox:lXE)(p:Prop):KB:=⟨L 0,O 0,false,.ret,[],[],lY id xn,Lx,Ox,p⟩
section
variable{id m n K:Nat}{c:Code}{t:Nat->Bool}{L Lr:Nat->Am.Loc}{O Or:Nat->lXE}{xr xn:AX}{xp:Nat->AX}{Lx:Am.Loc}{Ox:lXE}{p:Prop}{callf:Nat->c9}{kt:Nat->List (Nat×KB)}
section
variable(W:Nat->List bf)(G:Nat->GT)(sx:lXC)(gx:GT)
theorem anBP
  (h:p-> ∀i,i<m->vcC pg n (callf i) cU 3000 (kbL<|kt i) c (en<|L i) (dZ<|O i) (O i).length (ku<|W i) (G i))
  (hx:p->vcC pg n base cU 3000 (kbL []) c (en<|L m) (dZ<|O m) (O m).length (ku [⟨True,xn,Lx,sx,Ox⟩]) gx)
  (hc:p-> ∀i,i<m->cw Tryz.prog (callf i):=by exact λ_ _ _=>aE) (hk:p-> ∀i,i<m->qU Tryz.prog n K (kbL<|kt i) c:=by exact λ_ _ _=>bq _)
  (hf: ∀i,(W i).all (bf.fJ K)=true:=by intro _;repeat' (first|exact qY|apply lZ|apply bV|rfl|simp (maxDischargeDepth:=9)))
  (hfx:bf.fJ K ⟨True,xn,Lx,sx,Ox⟩=true:=by apply bV<;>first|rfl|simp (maxDischargeDepth:=9))
  (hq: ∀i,∀ww∈W i,Du (t i) (xp i) (L<|i+1) (O<|i+1) (Lr i) (Or i) ww:=by intro _;repeat' (first|exact xu|exact Ty|exact ac8|apply sY))
  (hO: ∀i,(O i).length=(O 0).length:=by exact λ_=>rfl) (hxr: ∀i,xp i≠ .normal:=by exact λ_ e=>by cases e) (hxn:xn≠ .normal:=by exact λe=>by cases e):cx pg n K id (.loop c) (anKP id m t L O xp Lr Or xn Lx Ox p):=
 F3 (λhp=>anyV (V:=λi=>vcC pg n (callf i) cU 3000 (kbL<|kt i) c) L O (O 0).length W G gx sx (λi hi=>gp (hc hp i hi) mixed<|hk hp i hi) (gp aE mixed<|bq c) hxr hxn hO (λi hi=>hO i▸h hp i hi) (λi _=>hf i) (λi _=>hq i) (hO m▸hx hp) hfx) (λh=>h) (λh=>h)
theorem anB
  (h:p-> ∀i,i<m->vcC pg n (callf i) cU 3000 (kbL<|kt i) c (en<|L i) (dZ<|O i) (O i).length (ku<|W i) (G i))
  (hx:p->vcC pg n base cU 3000 (kbL []) c (en<|L m) (dZ<|O m) (O m).length (ku [⟨True,xn,Lx,sx,Ox⟩]) gx)
  (hc:p-> ∀i,i<m->cw Tryz.prog (callf i):=by exact λ_ _ _=>aE) (hk:p-> ∀i,i<m->qU Tryz.prog n K (kbL<|kt i) c:=by exact λ_ _ _=>bq _)
  (hf: ∀i,(W i).all (bf.fJ K)=true:=by intro _;repeat' (first|exact qY|apply lZ|apply bV|rfl|simp (maxDischargeDepth:=9)))
  (hfx:bf.fJ K ⟨True,xn,Lx,sx,Ox⟩=true:=by apply bV<;>first|rfl|simp (maxDischargeDepth:=9))
  (hq: ∀i,∀ww∈W i,Du (t i) xr (L<|i+1) (O<|i+1) (Lr i) (Or i) ww:=by intro _;repeat' (first|exact xu|exact Ty|exact ac8|apply sY))
  (hO: ∀i,(O i).length=(O 0).length:=by exact λ_=>rfl) (hxr:xr≠ .normal:=by exact λe=>by cases e) (hxn:xn≠ .normal:=by exact λe=>by cases e):cx pg n K id (.loop c) (anK id m t L O xr Lr Or xn Lx Ox p):=
 anBP W G sx gx h hx hc hk hf hfx hq hO (λ_=>hxr) hxn
theorem noB(m:Nat)
  (h:p-> ∀i,i<m->vcC pg n (callf i) cU 3000 (kbL<|kt i) c (en<|L i) (dZ<|O i) (O i).length (ku<|W i) (G i))
  (hx:p->vcC pg n base cU 3000 (kbL []) c (en<|L m) (dZ<|O m) (O m).length (ku [⟨True,xn,Lx,sx,Ox⟩]) gx)
  (hc:p-> ∀i,i<m->cw Tryz.prog (callf i):=by exact λ_ _ _=>aE) (hk:p-> ∀i,i<m->qU Tryz.prog n K (kbL<|kt i) c:=by exact λ_ _ _=>bq _)
  (hf: ∀i,(W i).all (bf.fJ K)=true:=by intro _;repeat' (first|exact qY|apply lZ|apply bV|rfl|simp (maxDischargeDepth:=9)))
  (hfx:bf.fJ K ⟨True,xn,Lx,sx,Ox⟩=true:=by apply bV<;>first|rfl|simp (maxDischargeDepth:=9))
  (hq: ∀i,∀ww∈W i,Du false .ret (L<|i+1) (O<|i+1) [] [] ww:=by intro _;repeat' (first|exact xu|exact Ty|apply sY))
  (hO: ∀i,(O i).length=(O 0).length:=by exact λ_=>rfl) (hxn:xn≠ .normal:=by exact λe=>by cases e):cx pg n K id (.loop c) (noK id L O xn Lx Ox p):=
 aaC (m:=m) (t:=λ_=>false) (λhp=>anyV (xr:=λ_=> .ret) (Lr:=λ_=>[]) (obr:=λ_=>[]) (V:=λi=>vcC pg n (callf i) cU 3000 (kbL<|kt i) c) L O (O 0).length W G gx sx (λi hi=>gp (hc hp i hi) mixed<|hk hp i hi) (gp aE mixed<|bq c) (λ_ e=>by cases e) hxn hO (λi hi=>hO i▸h hp i hi) (λi _=>hf i) (λi _=>hq i) (hO m▸hx hp) hfx) (λ_=>rfl) rfl (λh=>h)
end
def lx(x:AX)(L:Am.Loc)(s:lXC)(O:lXE)(N:Nat):=lf ⟨True,x,L,s,O⟩ N trivial
end
noncomputable def whK{σ:Type}(id:Nat)(t h:σ->Bool)(it:Nat->σ)(L:σ->Am.Loc)(O:σ->lXE)(xr:AX)(Lr:σ->Am.Loc)(Or:σ->lXE)(xn:AX)(Lx:σ->Am.Loc)(Ox:σ->lXE)(I:σ->Prop):KB:=⟨L (it 0),O (it 0),h (it<|eB t it),lY id xr,Lr (it<|eB t it),Or (it<|eB t it),lY id xn,Lx (it<|eB t it),Ox (it<|eB t it),(∃k,t (it k)=true)/\ ∀k,k<=eB t it->I (it k)⟩
section
variable{σ:Type}{id n K:Nat}{c:Code}{t hh:σ->Bool}{it:Nat->σ}{L Lr Lx:σ->Am.Loc}{O Or Ox:σ->lXE}{xr xn:AX}{I:σ->Prop}{callf:σ->c9}{kt:σ->List (Nat×KB)}
theorem whB(W:σ->List bf)(G:σ->GT)(step:σ->σ)(k:Nat)
  (h: ∀x,I x->vcC pg n (callf x) cU 3000 (kbL<|kt x) c (en<|L x) (dZ<|O x) k (ku<|W x) (G x))
  (hc: ∀x,I x->cw Tryz.prog (callf x):=by exact λ_ _=>aE) (hk: ∀x,I x->qU Tryz.prog n K (kbL<|kt x) c:=by exact λ_ _=>bq _)
  (hf: ∀x,(W x).all (bf.fJ K)=true:=by intro _;repeat' (first|exact qY|apply lZ|apply bV|rfl|simp (maxDischargeDepth:=9)))
  (hq: ∀x,∀ww∈W x,Dx (t x) (hh x) xr xn (L<|step x) (O<|step x) (Lr x) (Or x) (Lx x) (Ox x) ww:=by intro _;repeat' (first|exact xu|exact aaD|exact ac9|exact ada|apply sY))
  (hs: ∀k,it (k+1)=step (it k):=by exact λ_=>rfl) (hO: ∀x,(O x).length=k:=by exact λ_=>rfl) (hxr:xr≠ .normal:=by exact λe=>by cases e) (hxn:xn≠ .normal:=by exact λe=>by cases e):cx pg n K id (.loop c) (whK id t hh it L O xr Lr Or xn Lx Ox I):=
 F3 (λhp=>adb (V:=λx=>vcC pg n (callf x) cU 3000 (kbL<|kt x) c) (step:=step) (t:=t) (hit:=hh) (it:=it) (I:=I) hs L O k W G (λx hx=>gp (hc x hx) mixed<|hk x hx) hxr hxn hO h (λx _=>hf x) (λx _=>hq x) hp.1 hp.2) (λh=>h) (λh=>h)
end
def jnW{α:Type}(x:α)(Lj:α->Am.Loc)(k:Nat)(Oj:lXE)(vs:List α):List bf:=vs.map λv=>⟨x=v,.normal,Lj v,range k,Oj⟩
section
variable{α:Type}{id n K k:Nat}{c:Code}{L:Am.Loc}{O Oj:lXE}{x:α}{callf:c9}{kt:List (Nat×KB)}{p:Prop}
theorem jnB(Lj:α->Am.Loc)(vs:List α)(t:GT)(h:p->vcC pg n callf cU 3000 (kbL kt) (.block id c) (en L) (dZ O) O.length (ku<|jnW x Lj k Oj vs) t)
  (hc:cw Tryz.prog callf:=by exact aE) (hk:qU Tryz.prog n K (kbL kt) (.block id c):=by exact bq _)
  (hf: ∀v,bf.fJ K ⟨x=v,.normal,Lj v,range k,Oj⟩=true:=by intro _;apply bV<;>first|rfl|simp (maxDischargeDepth:=9)):cx pg n K id c ⟨L,O,false,.ret,[],[],.normal,Lj x,Oj,p⟩:=
 sZ λhp=>joinV (gp hc mixed hk) Lj x vs (h hp) hf
end
def jhW(tv:Bool)(xr:AX)(Lr:Am.Loc)(Or:lXE)(xn:AX)(Lx:Am.Loc)(Ox:lXE):List bf:=[⟨tv=true,xr,Lr,range Or.length,Or⟩,⟨tv=false,xn,Lx,range Ox.length,Ox⟩]
section
variable{id n K:Nat}{c:Code}{L Lr Lx:Am.Loc}{O Or Ox:lXE}{tv:Bool}{xr xn:AX}{callf:c9}{kt:List (Nat×KB)}{p:Prop}
theorem jhB(t:GT)(h:p->vcC pg n callf cU 3000 (kbL kt) (.block id c) (en L) (dZ O) O.length (ku<|jhW tv xr Lr Or xn Lx Ox) t)
  (hc:cw Tryz.prog callf:=by exact aE) (hk:qU Tryz.prog n K (kbL kt) (.block id c):=by exact bq _)
  (f1:bf.fJ K ⟨tv=true,xr,Lr,range Or.length,Or⟩=true:=by apply bV<;>first|rfl|simp (maxDischargeDepth:=9)) (f2:bf.fJ K ⟨tv=false,xn,Lx,range Ox.length,Ox⟩=true:=by apply bV<;>first|rfl|simp (maxDischargeDepth:=9)):
  cx pg n K id c ⟨L,O,tv,xr,Lr,Or,xn,Lx,Ox,p⟩:=joinH (gp hc mixed hk) h f1 f2
end
def da{f:FuncId}{args:lXF}{r:AV}{p:Prop}(h:p->aY pg f args [] [] r [])(h1:aj args=true:=by simp)(h2:r.pure=true:=by simp):(cj.mk f args r p).bS pg:=λhp=>⟨h hp,h1,h2⟩
abbrev EndS(x:AX)(L:Am.Loc)(sel:lXC)(N:Nat)(a b:lXE):Prop:=True/\x=x/\nmS sel N L=nmS sel N L/\obS sel N a=obS sel N b
def lfZ{x:AX}{L:Am.Loc}{sel:lXC}{N:Nat}{a b:lXE}(_z:EndS x L sel N b b)(e:a=b):EndS x L sel N a b:=⟨trivial,rfl,rfl,af1 _ e⟩
def pvB{n K:Nat}{c:Code}{x:AX}{L L':Am.Loc}{ob ob':lXE}(t:GT)(sel:lXC)(N:Nat){A:Prop}(h:EndS x L' sel N ob' ob' ->A)(e:A=vcC pg n base cU 3000 (kbL []) c (en L) (dZ ob) ob.length (ku [⟨True,x,L',sel,ob'⟩]) t:=by kernel_rfl)
  (hf:bf.fJ K ⟨True,x,L',sel,ob'⟩=true:=by apply bV<;>first|rfl|simp (maxDischargeDepth:=9) [iR]):bo pg n K c L ob x L' ob':=aaB (gp aE mixed<|bq _) (e▸h ⟨trivial,rfl,rfl,rfl⟩) hf
def xy{m:Mem}{γ:Gam}: ∀{cs:lXF}{b off:Nat},bK m γ cs b off->bP m γ 1 (aI cs) b off
 |[],_,_,_=>by simp[aI,bP]
 |c::cs,b,off,h=>by simp only[bK]at h;have:=xy h.2;grind[aI,bP,bK]
def Jv{m:Mem}{γ:Gam}{cs:lXF}{b off:Nat}(h:bK m γ cs b off)(k:Nat):bK m γ (cs.take k) b off:=by grind[eW,qo]
section
variable{P:Program}{n:Nat}{ops:Array Oper}{l:List Oper}{L:Am.Loc}{ob:lXE}{kf:List Rec->Am.Loc->lXE->Prop}{gu:Am.Loc}{dst:Option Nat}{ty:TypeId}{pos:String}{after:Array Go.Edge}{guard:Option (Nat×Bool)}
theorem Dz{x:Operand}{t e:TypeId}{N p q:Nat}{k1 k2:IntKind}{cs:lXF}(ht:arK P t=some (N,e,1))(hx:aZ L x=some (.pf cs))(h1:p<q)(h2:q<=N)(hcs:cs.length=N)(hg:Gd ops L guard gu)(hn: ∀d,dst=some d->d<n)(kk:EvK P n ops l (c7 L dst (.sl 1<|aI<|(cs.drop p).take<|q-p) []) ob (λrecs=>kf<|⟨dst,gu++cm [(x,.pf cs)],.sl 1 (aI<|(cs.drop p).take<|q-p),[],.pure⟩::recs)):EvK P n ops (⟨dst,.slice t x (some<|.const<|.int k1 p) (some<|.const<|.int k2 q) none,ty,pos,after,guard⟩::l) L ob kf:=
 cY (o:=⟨dst,.slice t x (some<|.const<|.int k1 p) (some<|.const<|.int k2 q) none,ty,pos,after,guard⟩) [(x,.pf cs)] ⟨hx,trivial⟩ hg hn (λm γ w a _ h=>by
  have h5:=h.1;simp only[Rep]at h5;obtain⟨b,off,e1,e2⟩:=h5;obtain⟨hu,inf,g1,g2⟩:=qK ht;have hsz:(sizeOf e).run P w= .ok 1 w:=by simp[sizeOf,typeInfo,g1,g2]
  refine⟨.slice (some<|if N=p then⟨b,off,none⟩else Addr.add ⟨b,off,none⟩ (p*1)) (q-p) (N-p),?_,?_⟩
  ·have k:(Instr.sliceBounds false N N (some<|.int k1 p) (some<|.int k2 q) none).run P w= .ok (p,q,N) w:=by simp[Instr.sliceBounds,iU w _ _ _ _ (agx h1),iU w _ _ _ _ h2]
   have key:(Instr.sliceAt t (.pointer<|some ⟨b,off,none⟩) (some<|.int k1 p) (some<|.int k2 q) none).run P w= .ok (.slice (some<|if N=p then⟨b,off,none⟩else Addr.add ⟨b,off,none⟩ (p*1)) (q-p)<|N-p) w:=by simp only[Instr.sliceAt,Sem.run_bind,run_underlying hu,Result.andThen_ok,Instr.sureAddr,Sem.run_pure,k,hsz]
   simp only[execOp,e1,Option.map_none,af6];simp only[Act.eval,Sem.run_bind,key,Result.andThen_ok,Sem.run_pure]
  ·simp only[Rep];refine⟨_,_,_,rfl,by rw[ib,agw,ag4];omega,by omega,.inr ⟨b,off+p,by rw[if_neg oaa];simp[Addr.add],xy (Jv (fS e2 p) _)⟩⟩) kk
end
def TH:lXF:=[S ⟨#[105,110,100,101,120]⟩,S ⟨#[99,111,108,117,109,110]⟩,S ⟨#[108,97]⟩,S ⟨#[109,111,100,101]⟩]
def W15:lXF:=replicate 10 (S ⟨#[]⟩)++TH++ [S ⟨#[]⟩]
def adf:List Oper:=[⟨some 3,.slice 184 (.tmp 1) (some<|.const<|.int .i8 (10:Nat)) (some<|.const<|.int .i8 (14:Nat)) none,22, "guard.go:51",#[],none⟩,⟨some 0,.assign (.tmp 3),22, "guard.go:51",#[⟨0,.data⟩,⟨0,.phase⟩],none⟩]
theorem tl133:sq2 (sq2<|aG 148)= .seq (.region 2 adf.toArray false) .ret:=by kernel_rfl
def aaE:iM [1] [0] (FV Tryz.prog 4 base cU 3000 [sq1 (aG 148),sq1 (sq2<|aG 148)] (jC 0 [] .e) .e 0 ⟨0,[],[]⟩)=some (.normal,[some (.pt 0 0)],[some (.box 184 W15)],1,[]):=by kernel_rfl
def aaF:aY pg 148 [] [] [] (.sl 1<|aI TH) []:=by
 refine kr (fn:=Tryz.f148) Tryz.func148 oab (show Tryz.f148.body=some (Th [sq1 (aG 148),sq1 (sq2<|aG 148)]<|sq2<|sq2<|aG 148) by kernel_rfl) (nbl rfl) (afP _) rfl rfl ?_;refine FX aE mixed [(1,.pt 0 0)] [.box 184 W15] aaE rfl rfl rfl rfl (Tn (A:=[.box 184 W15]) (Ji 1 _) rfl) ?_;refine Tk (Tj (o:=0) (X:= .box 184 W15) (ob2:=[.dead]) (L':=[(1,.pf W15)]) rfl (.inr ⟨_,_,rfl⟩) rfl (λi Y Y' h1 h2=> .inl<|by cases i<;>simp at h2;exact h2.symm)<|λt av' h=> ?_) ?_
 ·rw[dP]at h;split at h
  ·rename_i e;cases h;exact⟨.pt 0 0,by rw[dP,if_pos e],Frz.pt rfl⟩
  ·simp[lk]at h
 ·rw[tl133];refine jg (IG (.inl rfl) ?_);refine Dz (N:=15) (p:=10) (q:=14) (cs:=W15) (e:=9) oab rfl oaa oaa rfl (by first|exact .none|exact rfl) (by intro d h;cases h;decide) ?_;refine Bo rfl .none (by intro d h;cases h;decide) ?_;refine ou (aai (L3:=[(0,.sl 1 (aI TH))]) rfl ?_ ?_)
  ·exact kc 0 rfl kn
  ·refine LI ?_;exact⟨[.sl 1 (aI TH)],by first|exact .tmp rfl .nil,rfl,_,rfl⟩
end Go.Proofs.YtfkjfjalecikkaaGreat
namespace Go.Am
def fa0{β:Type}{p:β->Prop}: ∀x∈([]:List β),p x:=λx h=>by simp at h
def fa1{β:Type}{p:β->Prop}{a:β}{l:List β}(h:p a)(t: ∀x∈l,p x): ∀x∈a::l,p x:=λx hx=>by
 rcases agq.1 hx with rfl|hx
 ·exact h
 ·exact t x hx
section
variable{P:Program}{n K:Nat}
theorem ab4{α:Type}{c:Code}{V:VC}(hv:il P n K c V){L:Loc}{ob:lXE}{nob:Nat}(hn:ob.length=nob)(Lj:α->Loc)(Oj:α->lXE)(x:α)(ws:List (α×lXC)){t:GT}(h:V (en L) (dZ ob) nob (ku<|ws.map λw=>⟨x=w.1,.normal,Lj w.1,w.2,Oj w.1⟩) t)(hf: ∀w∈ws,bf.fJ K ⟨x=w.1,.normal,Lj w.1,w.2,Oj w.1⟩=true):bo P n K c L ob .normal (Lj x) (Oj x):=by subst hn;intro df Q hd hq;refine kv hv h (by simp only[List.all_map,agc];exact λw hw=>hf w hw) hd λo ho hp=> ?_;obtain⟨w,_,rfl⟩:=agm.1 ho;have hp:x=w.1:=hp;subst hp;exact hq
end
section
variable{P:Program}{n K:Nat}
theorem adg{α:Type}{id:Nat}{c:Code}{V:VC}(hv:il P n K (.block id c) V){L:Loc}{ob:lXE}{nob:Nat}(hn:ob.length=nob){tv:Bool}{xr:AX}(Lr Lx:α->Loc)(Or Ox:α->lXE)(v1 v2:α)(ws1 ws2:List (α×lXC)){t:GT}(h:V (en L) (dZ ob) nob (ku<|ws1.map (λw=>(⟨tv=true/\v1=w.1,xr,Lr w.1,w.2,Or w.1⟩:bf))++ws2.map (λw=>(⟨tv=false/\v2=w.1,.normal,Lx w.1,w.2,Ox w.1⟩:bf))) t)(hf1: ∀w∈ws1,bf.fJ K ⟨tv=true/\v1=w.1,xr,Lr w.1,w.2,Or w.1⟩=true)(hf2: ∀w∈ws2,bf.fJ K ⟨tv=false/\v2=w.1,.normal,Lx w.1,w.2,Ox w.1⟩=true):cx P n K id c ⟨L,ob,tv,xr,Lr v1,Or v1,.normal,Lx v2,Ox v2,True⟩:=by
 subst hn;have hf:(ws1.map (λ(w:α×lXC)=>(⟨tv=true/\v1=w.1,xr,Lr w.1,w.2,Or w.1⟩:bf))++ws2.map (λ(w:α×lXC)=>(⟨tv=false/\v2=w.1,.normal,Lx w.1,w.2,Ox w.1⟩:bf))).all (bf.fJ K)=true:=by simp only[List.all_append,List.all_map,afJ,agc];exact⟨λw hw=>hf1 w hw,λw hw=>hf2 w hw⟩
 refine⟨λ_ e df Q hd hq=>kv hv h hf hd λo ho hp=> ?_,λ_ e df Q hd hq=>kv hv h hf hd λo ho hp=> ?_⟩
 ·rcases agH.1 ho with ho|ho
  ·obtain⟨w,_,rfl⟩:=agm.1 ho;have hp:tv=true/\v1=w.1:=hp;obtain⟨_,rfl⟩:=hp;exact hq
  ·obtain⟨w,_,rfl⟩:=agm.1 ho;have hp:tv=false/\v2=w.1:=hp;have e:tv=true:=e;rw[hp.1]at e;cases e
 ·rcases agH.1 ho with ho|ho
  ·obtain⟨w,_,rfl⟩:=agm.1 ho;have hp:tv=true/\v1=w.1:=hp;have e:tv=false:=e;rw[hp.1]at e;cases e
  ·obtain⟨w,_,rfl⟩:=agm.1 ho;have hp:tv=false/\v2=w.1:=hp;obtain⟨_,rfl⟩:=hp;exact hq
end
structure bH where
 f:FuncId
 args:lXF
 ob0:lXE
 r:AV
 ob1:lXE
 p:Prop
 lo:Nat
def bH.bS(P:Program)(c:bH):Prop:=c.p->qO P c.f c.args c.ob0 c.r c.ob1/\ ∀i,tb c.lo i=false->c.ob1[i]? =c.ob0[i]?
noncomputable def cz(T:List bH)(callf:c9):c9:=λf args O N tm=>match tm.gd with
 | .bG i _::g=>match T[i]? with
  |some c=>cond (Nat.beq f c.f) (.ret c.r (dZ c.ob1) c.ob1.length<|((tm.at N).told g<|dec c.p&&dec (args=c.args/\wL O N 0=c.ob0)).low c.lo) (callf f args O N tm)
  |none=>callf f args O N tm
 |_=>callf f args O N tm
inductive dg(P:Program):List bH->Prop
 |nil:dg P []
 |cons {c:bH} {T:List bH} (h:c.bS P) (t:dg P T):dg P (c::T)
section
variable{P:Program}
theorem dg.get: ∀{T:List bH},dg P T-> ∀{i:Nat}{c:bH},T[i]? =some c->c.bS P
 |[],_,i,c,h=>by simp at h
 |d::T,.cons h t,i,c,e=>by
  cases i with
  |zero=>simp at e;subst e;exact h
  |succ i=>exact t.get (by simpa using e)
theorem bC{T:List bH}{callf:c9}(h:dg P T)(hcf:cw P callf):cw P (cz T callf):=λf args O N tm=>by
 unfold cz;split
 ·rename_i i r g hg;split
  ·rename_i c hc;cases hf:Nat.beq f c.f with
   |false=>exact hcf f args O N tm
   |true=>have:=afV hf;subst this;simp only[af2];refine⟨λr' O1 N1 t1 e=> ?_,λav O1 N1 t1 e=>by cases e⟩;cases e;refine⟨⟨[_],rfl⟩,λhok ob hO=> ?_⟩;simp only[TM.told,TM.at,TM.low,cF,afJ]at hok;obtain⟨k,kl⟩:=(h.get hc) (aR.1 hok.1.1);obtain⟨k1,k2⟩:=aR.1 hok.1.2;rw[qN hO]at k2;subst k1;subst k2;refine⟨c.ob1,fQ _,k,λi hi=> ?_⟩;simp only[TM.told,TM.at,TM.low]at hi;rw[nk,af4]at hi;rw[(fQ c.ob1).2 i,hO.2 i];exact kl i hi.2
  ·exact hcf f args O N tm
 ·exact hcf f args O N tm
theorem qW{c:bH}(hp:c.p){ob:lXE}(e:ob=c.ob0):(dec c.p&&dec (c.args=c.args/\ob=c.ob0))=true:=by rw[aR.2 hp,aR.2 ⟨rfl,e⟩];rfl
end
end Go.Am
namespace Go.Proofs.YtfkjfjalecikkaaGreat
open Go.Am
def u8C(z:Int):lXF:=[.v (.int .u8 z)]
theorem cn(z:Int):aj (u8C z)=true:=rfl
@[simp] theorem Gc(l:lXA):ak (l.map u8C)=true:=bc cn l
@[simp] theorem pv_u8(z:Int):aj (u8C z)=true:=rfl
section
variable(k:IntKind)(a b:Int)
def bor:Int:=k.wrap ((BitVec.ofInt k.bits a|||BitVec.ofInt k.bits b).toNat:Int)
def band:Int:=k.wrap ((BitVec.ofInt k.bits a&&&BitVec.ofInt k.bits b).toNat:Int)
def mM:Int:=k.wrap ((BitVec.ofInt k.bits a^^^BitVec.ofInt k.bits b).toNat:Int)
end
def A7:Nat->Int->lXA
 |0,x=>[wrap .u8 x]
 |k+1,x=>bif decide (x>127)then bor .u8 (wrap .u8 x) 128::A7 k (Int.fdiv x<|2^7)else [wrap .u8 x]
def dx(x:Int):lXA:=bif Int.fdiv x (2^63) !=0 then []else A7 8 x
def fd7{x:Int}{n:Nat}(h0:0<=x)(h:x<(2:Int)^(n+7)):0<=Int.fdiv x (2^7)/\Int.fdiv x (2^7)<(2:Int)^n:=by rw[agS _ oay];rw[Int.pow_add]at h;exact⟨Int.ediv_nonneg h0 oay,Int.ediv_lt_of_lt_mul oay h⟩
def sh(k:Nat)(x:Int):Int:=Nat.rec (motive:=λ_=>Int) x (λ_ y=>Int.fdiv y<|2^7) k
def hb8(x:Int):Int:=bor .u8 (wrap .u8 x) 128
def hc8(x:Int):Int:=bor .u8 (wrap .u8<|band .u64 x 127) 128
def sh7{x:Int}{n:Nat}(k:Nat)(h:0<=sh k x/\sh k x<(2:Int)^(n+7)):0<=sh (k+1) x/\sh (k+1) x<(2:Int)^n:=fd7 h.1 h.2
theorem fd63{x:Int}(h0:0<=x)(h:(Int.fdiv x (2^63) !=0)=false):x<2^63:=by rw[agS _ oay]at h;have h:=fY h;omega
def B4(x:Int):lXA:=(bif decide (x>127)then(bif decide ((sh 1 x)>127)then(bif decide ((sh 2 x)>127)then(bif decide ((sh 3 x)>127)then(bif decide ((sh 4 x)>127)then(bif decide ((sh 5 x)>127)then(bif decide ((sh 6 x)>127)then(bif decide ((sh 7 x)>127)then [(hb8 x),(hb8<|sh 1 x),(hb8<|sh 2 x),(hb8<|sh 3 x),(hb8<|sh 4 x),(hb8<|sh 5 x),(hb8<|sh 6 x),(hb8<|sh 7 x),wrap .u8 (sh 8 x)]else [(hb8 x),(hb8<|sh 1 x),(hb8<|sh 2 x),(hb8<|sh 3 x),(hb8<|sh 4 x),(hb8<|sh 5 x),(hb8<|sh 6 x),wrap .u8 (sh 7 x)])else [(hb8 x),(hb8<|sh 1 x),(hb8<|sh 2 x),(hb8<|sh 3 x),(hb8<|sh 4 x),(hb8<|sh 5 x),wrap .u8 (sh 6 x)])else [(hb8 x),(hb8<|sh 1 x),(hb8<|sh 2 x),(hb8<|sh 3 x),(hb8<|sh 4 x),wrap .u8 (sh 5 x)])else [(hb8 x),(hb8<|sh 1 x),(hb8<|sh 2 x),(hb8<|sh 3 x),wrap .u8 (sh 4 x)])else [(hb8 x),(hb8<|sh 1 x),(hb8<|sh 2 x),wrap .u8 (sh 3 x)])else [(hb8 x),(hb8<|sh 1 x),wrap .u8 (sh 2 x)])else [(hb8 x),wrap .u8 (sh 1 x)])else [wrap .u8 x])
def ky(y:lXA):Am.Loc:=[(2,.sr 0 1 0 y.length)]
def ja(x:Int)(y:lXA):lXE:=[.row 5 1 (map u8C y)]
def TI(x:Int):List ((lXA)×AX×lXC):=[([(hb8 x),(hb8<|sh 1 x),(hb8<|sh 2 x),(hb8<|sh 3 x),(hb8<|sh 4 x),(hb8<|sh 5 x),(hb8<|sh 6 x),(hb8<|sh 7 x),wrap .u8 (sh 8 x)],.ret,[8]),([(hb8 x),(hb8<|sh 1 x),(hb8<|sh 2 x),(hb8<|sh 3 x),(hb8<|sh 4 x),(hb8<|sh 5 x),(hb8<|sh 6 x),wrap .u8 (sh 7 x)],.ret,[7]),([(hb8 x),(hb8<|sh 1 x),(hb8<|sh 2 x),(hb8<|sh 3 x),(hb8<|sh 4 x),(hb8<|sh 5 x),wrap .u8 (sh 6 x)],.ret,[6]),([(hb8 x),(hb8<|sh 1 x),(hb8<|sh 2 x),(hb8<|sh 3 x),(hb8<|sh 4 x),wrap .u8 (sh 5 x)],.ret,[5]),([(hb8 x),(hb8<|sh 1 x),(hb8<|sh 2 x),(hb8<|sh 3 x),wrap .u8 (sh 4 x)],.ret,[4]),([(hb8 x),(hb8<|sh 1 x),(hb8<|sh 2 x),wrap .u8 (sh 3 x)],.ret,[3]),([(hb8 x),(hb8<|sh 1 x),wrap .u8 (sh 2 x)],.ret,[2]),([(hb8 x),wrap .u8 (sh 1 x)],.ret,[1]),([wrap .u8 x],.ret,[0])]
def mN(x:Int):List bf:=((TI x).map λw=>(⟨B4 x=w.1,w.2.1,ky w.1,w.2.2,ja x w.1⟩:bf))
abbrev zB:GT:=(.r [bT]<|.pick 0)
abbrev zBv:GT:=(.r [bT]<|.pick 1)
abbrev zY:GT:=(.r [bT]<|.r [.k,bT]<|.no<|.r [bT]<|.more<|.r [.k,bT]<|.br (.r [bT]<|.r [bT]<|.r [.k,bT]<|.br (.r [bT]<|.r [bT]<|.r [.k,bT]<|.br (.r [bT]<|.r [bT]<|.r [.k,bT]<|.br (.r [bT]<|.r [bT]<|.r [.k,bT]<|.br (.r [bT]<|.r [bT]<|.r [.k,bT]<|.br (.r [bT]<|.r [bT]<|.r [.k,bT]<|.br (.r [bT]<|.r [bT]<|.r [.k,bT]<|.br (.r [bT]<|.r [bT]<|.r [.k,bT]<|.no zB) zBv)<|.r [bT]<|.pick 2)<|.r [bT]<|.pick 3)<|.r [bT]<|.pick 4)<|.r [bT]<|.pick 5)<|.r [bT]<|.pick 6)<|.r [bT]<|.pick 7)<|.r [bT]<|.pick 8)
def put15(x:Int)(h0:0<=x)(hb:(Int.fdiv x (2^63) !=0)=false):aY pg 15 [.v (.int .u64 x)] [] [] (.sr 0 1 0 (B4 x).length) (ja x<|B4 x):=
 have q0:=fd63 h0 hb;have q1:0<=sh 1 x/\sh 1 x<2^56:=sh7 0 ⟨h0,q0⟩;have q2:0<=sh 2 x/\sh 2 x<2^49:=sh7 1 q1;have q3:0<=sh 3 x/\sh 3 x<2^42:=sh7 2 q2;have q4:0<=sh 4 x/\sh 4 x<2^35:=sh7 3 q3;have q5:0<=sh 5 x/\sh 5 x<2^28:=sh7 4 q4;have q6:0<=sh 6 x/\sh 6 x<2^21:=sh7 5 q5;have q7:0<=sh 7 x/\sh 7 x<2^14:=sh7 6 q6;have q8:0<=sh 8 x/\sh 8 x<2^7:=sh7 7 q7;cZ (ob0:=[]) (fn:=Tryz.f15) (callf:=base) (pu:=cU) (lf:=3000) (l:=[]) (t:=zY) aE mixed Tryz.func15 oab (show Tryz.f15.body=some (aG 15) by kernel_rfl) (nbl rfl) (bq _) rfl ky (ja x) (B4 x) (TI x) (nbl rfl) rfl (by simp[ja,Ob.und,AV.und,bx,bj cn]) (bB (an a0<|an (a1 a0)<|an (show((Int.fdiv x<|2^63) !=0)=false from hb)<|an a0<|an (a1 a0)<|brP (λ(h0:(decide<|x>127)=true)=>have g0:=afS h0;
 (an (a1 a0)<|an a0<|an (a1 a0)<|brP (λ(h1:(decide<|(sh 1 x)>127)=true)=>have g1:=afS h1;
 (an (a1 a0)<|an a0<|an (a1 a0)<|brP (λ(h2:(decide<|(sh 2 x)>127)=true)=>have g2:=afS h2;
 (an (a1 a0)<|an a0<|an (a1 a0)<|brP (λ(h3:(decide<|(sh 3 x)>127)=true)=>have g3:=afS h3;
 (an (a1 a0)<|an a0<|an (a1 a0)<|brP (λ(h4:(decide<|(sh 4 x)>127)=true)=>have g4:=afS h4;
 (an (a1 a0)<|an a0<|an (a1 a0)<|brP (λ(h5:(decide<|(sh 5 x)>127)=true)=>have g5:=afS h5;
 (an (a1 a0)<|an a0<|an (a1 a0)<|brP (λ(h6:(decide<|(sh 6 x)>127)=true)=>have g6:=afS h6;
 (an (a1 a0)<|an a0<|an (a1 a0)<|brP (λ(h7:(decide<|(sh 7 x)>127)=true)=>have g7:=afS h7;
 (an (a1 a0)<|an a0<|an (a1 a0)<|an (show(decide<|(sh 8 x)>127)=false from(afU oaa))<|an (a1 a0)<|lf (wy (mN x) 0) 9<|cdT h0<|cdT h1<|cdT h2<|cdT h3<|cdT h4<|cdT h5<|cdT h6<|cdT h7 rfl))<|λh7=>(an (a1 a0)<|lf (wy (mN x) 1) 8<|cdT h0<|cdT h1<|cdT h2<|cdT h3<|cdT h4<|cdT h5<|cdT h6<|cdF h7 rfl)))<|λh6=>(an (a1 a0)<|lf (wy (mN x) 2) 7<|cdT h0<|cdT h1<|cdT h2<|cdT h3<|cdT h4<|cdT h5<|cdF h6 rfl)))<|λh5=>(an (a1 a0)<|lf (wy (mN x) 3) 6<|cdT h0<|cdT h1<|cdT h2<|cdT h3<|cdT h4<|cdF h5 rfl)))<|λh4=>(an (a1 a0)<|lf (wy (mN x) 4) 5<|cdT h0<|cdT h1<|cdT h2<|cdT h3<|cdF h4 rfl)))<|λh3=>(an (a1 a0)<|lf (wy (mN x) 5) 4<|cdT h0<|cdT h1<|cdT h2<|cdF h3 rfl)))<|λh2=>(an (a1 a0)<|lf (wy (mN x) 6) 3<|cdT h0<|cdT h1<|cdF h2 rfl)))<|λh1=>(an (a1 a0)<|lf (wy (mN x) 7) 2<|cdT h0<|cdF h1 rfl)))<|λh0=>(an (a1 a0)<|lf (wy (mN x) 8) 1<|cdF h0 rfl)) oab) (fa1 (.inr rfl)<|fa1 (.inr rfl)<|fa1 (.inr rfl)<|fa1 (.inr rfl)<|fa1 (.inr rfl)<|fa1 (.inr rfl)<|fa1 (.inr rfl)<|fa1 (.inr rfl)<|fa1 (.inr rfl) fa0) (fa1 (bV rfl rfl rfl oaw oaq)<|fa1 (bV rfl rfl rfl oaw oaq)<|fa1 (bV rfl rfl rfl oaw oaq)<|fa1 (bV rfl rfl rfl oaw oaq)<|fa1 (bV rfl rfl rfl oaw oaq)<|fa1 (bV rfl rfl rfl oaw oaq)<|fa1 (bV rfl rfl rfl oaw oaq)<|fa1 (bV rfl rfl rfl oaw oaq)<|fa1 (bV rfl rfl rfl oaw oaq) fa0) rfl
def TJ(x:Int):AV:= .v (.slice none 0 0)
abbrev zF:GT:=(.r [bT] .nil)
def adh(x:Int)(hb:(Int.fdiv x (2^63) !=0)=true):aY pg 15 [.v (.int .u64 x)] [] [] (TJ x) []:=
 aV 15 (.r [bT]<|.r [.k,bT]<|.yes zF)
 (an a0<|an (a1 a0)<|an (show((Int.fdiv x<|2^63) !=0)=true from hb)<|an a0<|vE<|show TJ x=(.v<|.slice none 0 0)from rfl)
def B5(x:Int):lXA:=(bif decide (x>=128)then(bif decide ((sh 1 x)>=128)then(bif decide ((sh 2 x)>=128)then(bif decide ((sh 3 x)>=128)then(bif decide ((sh 4 x)>=128)then(bif decide ((sh 5 x)>=128)then(bif decide ((sh 6 x)>=128)then(bif decide ((sh 7 x)>=128)then [(hc8 x),(hc8<|sh 1 x),(hc8<|sh 2 x),(hc8<|sh 3 x),(hc8<|sh 4 x),(hc8<|sh 5 x),(hc8<|sh 6 x),(hc8<|sh 7 x),wrap .u8 (sh 8 x)]else [(hc8 x),(hc8<|sh 1 x),(hc8<|sh 2 x),(hc8<|sh 3 x),(hc8<|sh 4 x),(hc8<|sh 5 x),(hc8<|sh 6 x),wrap .u8 (sh 7 x)])else [(hc8 x),(hc8<|sh 1 x),(hc8<|sh 2 x),(hc8<|sh 3 x),(hc8<|sh 4 x),(hc8<|sh 5 x),wrap .u8 (sh 6 x)])else [(hc8 x),(hc8<|sh 1 x),(hc8<|sh 2 x),(hc8<|sh 3 x),(hc8<|sh 4 x),wrap .u8 (sh 5 x)])else [(hc8 x),(hc8<|sh 1 x),(hc8<|sh 2 x),(hc8<|sh 3 x),wrap .u8 (sh 4 x)])else [(hc8 x),(hc8<|sh 1 x),(hc8<|sh 2 x),wrap .u8 (sh 3 x)])else [(hc8 x),(hc8<|sh 1 x),wrap .u8 (sh 2 x)])else [(hc8 x),wrap .u8 (sh 1 x)])else [wrap .u8 x])
def kz(y:lXA):Am.Loc:=[(2,.sr 0 1 0 y.length)]
def jb(x:Int)(y:lXA):lXE:=[.row 5 1 (map u8C y)]
def TK(x:Int):List ((lXA)×AX×lXC):=[([(hc8 x),(hc8<|sh 1 x),(hc8<|sh 2 x),(hc8<|sh 3 x),(hc8<|sh 4 x),(hc8<|sh 5 x),(hc8<|sh 6 x),(hc8<|sh 7 x),wrap .u8 (sh 8 x)],.ret,[16]),([(hc8 x),(hc8<|sh 1 x),(hc8<|sh 2 x),(hc8<|sh 3 x),(hc8<|sh 4 x),(hc8<|sh 5 x),(hc8<|sh 6 x),wrap .u8 (sh 7 x)],.ret,[14]),([(hc8 x),(hc8<|sh 1 x),(hc8<|sh 2 x),(hc8<|sh 3 x),(hc8<|sh 4 x),(hc8<|sh 5 x),wrap .u8 (sh 6 x)],.ret,[12]),([(hc8 x),(hc8<|sh 1 x),(hc8<|sh 2 x),(hc8<|sh 3 x),(hc8<|sh 4 x),wrap .u8 (sh 5 x)],.ret,[10]),([(hc8 x),(hc8<|sh 1 x),(hc8<|sh 2 x),(hc8<|sh 3 x),wrap .u8 (sh 4 x)],.ret,[8]),([(hc8 x),(hc8<|sh 1 x),(hc8<|sh 2 x),wrap .u8 (sh 3 x)],.ret,[6]),([(hc8 x),(hc8<|sh 1 x),wrap .u8 (sh 2 x)],.ret,[4]),([(hc8 x),wrap .u8 (sh 1 x)],.ret,[2]),([wrap .u8 x],.ret,[0])]
def mO(x:Int):List bf:=((TK x).map λw=>(⟨B5 x=w.1,w.2.1,kz w.1,w.2.2,jb x w.1⟩:bf))
def put16(x:Int)(h0:0<=x)(hb:decide (x>=9223372036854775808)=false):aY pg 16 [.v (.int .u64 x)] [] [] (.sr 0 1 0 (B5 x).length) (jb x<|B5 x):=
 have q0:x<2^63:=(by have:=afN hb;omega);have q1:0<=sh 1 x/\sh 1 x<2^56:=sh7 0 ⟨h0,q0⟩;have q2:0<=sh 2 x/\sh 2 x<2^49:=sh7 1 q1;have q3:0<=sh 3 x/\sh 3 x<2^42:=sh7 2 q2;have q4:0<=sh 4 x/\sh 4 x<2^35:=sh7 3 q3;have q5:0<=sh 5 x/\sh 5 x<2^28:=sh7 4 q4;have q6:0<=sh 6 x/\sh 6 x<2^21:=sh7 5 q5;have q7:0<=sh 7 x/\sh 7 x<2^14:=sh7 6 q6;have q8:0<=sh 8 x/\sh 8 x<2^7:=sh7 7 q7;cZ (ob0:=[]) (fn:=Tryz.f16) (callf:=base) (pu:=cU) (lf:=3000) (l:=[]) (t:=zY) aE mixed Tryz.func16 oab (show Tryz.f16.body=some (aG 16) by kernel_rfl) (nbl rfl) (bq _) rfl kz (jb x) (B5 x) (TK x) (nbl rfl) rfl (by simp[jb,Ob.und,AV.und,bx,bj cn]) (bB (an a0<|an (a1 a0)<|an (show(decide<|x>=9223372036854775808)=false from hb)<|an a0<|an (a1 a0)<|brP (λ(h0:(decide<|x>=128)=true)=>have g0:=afS h0;
 (an (a1 a0)<|an a0<|an (a1 a0)<|brP (λ(h1:(decide<|(sh 1 x)>=128)=true)=>have g1:=afS h1;
 (an (a1 a0)<|an a0<|an (a1 a0)<|brP (λ(h2:(decide<|(sh 2 x)>=128)=true)=>have g2:=afS h2;
 (an (a1 a0)<|an a0<|an (a1 a0)<|brP (λ(h3:(decide<|(sh 3 x)>=128)=true)=>have g3:=afS h3;
 (an (a1 a0)<|an a0<|an (a1 a0)<|brP (λ(h4:(decide<|(sh 4 x)>=128)=true)=>have g4:=afS h4;
 (an (a1 a0)<|an a0<|an (a1 a0)<|brP (λ(h5:(decide<|(sh 5 x)>=128)=true)=>have g5:=afS h5;
 (an (a1 a0)<|an a0<|an (a1 a0)<|brP (λ(h6:(decide<|(sh 6 x)>=128)=true)=>have g6:=afS h6;
 (an (a1 a0)<|an a0<|an (a1 a0)<|brP (λ(h7:(decide<|(sh 7 x)>=128)=true)=>have g7:=afS h7;
 (an (a1 a0)<|an a0<|an (a1 a0)<|an (show(decide<|(sh 8 x)>=128)=false from(afU oaa))<|an (a1 a0)<|lf (wy (mO x) 0) 17<|cdT h0<|cdT h1<|cdT h2<|cdT h3<|cdT h4<|cdT h5<|cdT h6<|cdT h7 rfl))<|λh7=>(an (a1 a0)<|lf (wy (mO x) 1) 15<|cdT h0<|cdT h1<|cdT h2<|cdT h3<|cdT h4<|cdT h5<|cdT h6<|cdF h7 rfl)))<|λh6=>(an (a1 a0)<|lf (wy (mO x) 2) 13<|cdT h0<|cdT h1<|cdT h2<|cdT h3<|cdT h4<|cdT h5<|cdF h6 rfl)))<|λh5=>(an (a1 a0)<|lf (wy (mO x) 3) 11<|cdT h0<|cdT h1<|cdT h2<|cdT h3<|cdT h4<|cdF h5 rfl)))<|λh4=>(an (a1 a0)<|lf (wy (mO x) 4) 9<|cdT h0<|cdT h1<|cdT h2<|cdT h3<|cdF h4 rfl)))<|λh3=>(an (a1 a0)<|lf (wy (mO x) 5) 7<|cdT h0<|cdT h1<|cdT h2<|cdF h3 rfl)))<|λh2=>(an (a1 a0)<|lf (wy (mO x) 6) 5<|cdT h0<|cdT h1<|cdF h2 rfl)))<|λh1=>(an (a1 a0)<|lf (wy (mO x) 7) 3<|cdT h0<|cdF h1 rfl)))<|λh0=>(an (a1 a0)<|lf (wy (mO x) 8) 1<|cdF h0 rfl)) oab) (fa1 (.inr rfl)<|fa1 (.inr rfl)<|fa1 (.inr rfl)<|fa1 (.inr rfl)<|fa1 (.inr rfl)<|fa1 (.inr rfl)<|fa1 (.inr rfl)<|fa1 (.inr rfl)<|fa1 (.inr rfl) fa0) (fa1 (bV rfl rfl rfl oax oar)<|fa1 (bV rfl rfl rfl oax oar)<|fa1 (bV rfl rfl rfl oax oar)<|fa1 (bV rfl rfl rfl oax oar)<|fa1 (bV rfl rfl rfl oax oar)<|fa1 (bV rfl rfl rfl oax oar)<|fa1 (bV rfl rfl rfl oax oar)<|fa1 (bV rfl rfl rfl oax oar)<|fa1 (bV rfl rfl rfl oax oar) fa0) rfl
def TL(x:Int):AV:= .v (.slice none 0 0)
def adi(x:Int)(hb:decide (x>=9223372036854775808)=true):aY pg 16 [.v (.int .u64 x)] [] [] (TL x) []:=
 aV 16 (.r [bT]<|.r [.k,bT]<|.yes zF)
 (an a0<|an (a1 a0)<|an (show(decide<|x>=9223372036854775808)=true from hb)<|an a0<|vE<|show TL x=(.v<|.slice none 0 0)from rfl)
theorem ab5(n:Nat):IntKind.u8.wrap (n:Int)=((n%256:Nat):Int):=by show((n:Int)%(2^8:Int))=_;rw[show((2:Int)^8)=((256:Nat):Int)from by decide,<-Int.natCast_emod]
def bor8F: ∀b:Fin 256,bor .u8 (b.val:Int) 128=((b.val%128+128:Nat):Int):=by decide+kernel
theorem bor8{n:Nat}(h:n<256):bor .u8 (n:Int) 128=((n%128+128:Nat):Int):=bor8F ⟨n,h⟩
theorem aaG{n:Nat}(h:n<18446744073709551616):band .u64 (n:Int) 127=((n%128:Nat):Int):=by show(((BitVec.ofInt 64 (n:Int)&&&BitVec.ofInt 64 127).toNat:Nat):Int)%(2^64:Int)=_;rw[BitVec.toNat_and,BitVec.ofInt_natCast,BitVec.toNat_ofNat,Nat.mod_eq_of_lt oaa];rw[show(BitVec.ofInt 64 127).toNat=2^7-1 by decide,Nat.and_two_pow_sub_one_eq_mod];omega
def TN{x:Int}(h0:0<=x)(h:x<18446744073709551616):bor .u8 (wrap .u8<|band .u64 x 127) 128=bor .u8 (wrap .u8 x) 128:=by obtain⟨n,rfl⟩: ∃n:Nat,x=n:=⟨x.toNat,by omega⟩;rw[aaG oaa,ab5,ab5,bor8 oaa,bor8 oaa];omega
theorem Ge(a:Int)(b:Bool)(u v:lXA):(a::bif b then u else v)=bif b then a::u else a::v:=by cases b<;>rfl
theorem adj(x:Int):B4 x=A7 8 x:=by unfold B4;simp only[A7,Ge];rfl
theorem tZ{x:Int}(h0:0<=x)(h:x<18446744073709551616):hc8 x=hb8 x:=TN h0 h
theorem ge127(x:Int):decide (x>=128)=decide (x>127):=decide_eq_decide.2 oaa
theorem adk{x:Int}(h0:0<=x)(h:x<2^63):B5 x=A7 8 x:=by have q1:0<=sh 1 x/\sh 1 x<2^56:=sh7 0 ⟨h0,h⟩;have q2:0<=sh 2 x/\sh 2 x<2^49:=sh7 1 q1;have q3:0<=sh 3 x/\sh 3 x<2^42:=sh7 2 q2;have q4:0<=sh 4 x/\sh 4 x<2^35:=sh7 3 q3;have q5:0<=sh 5 x/\sh 5 x<2^28:=sh7 4 q4;have q6:0<=sh 6 x/\sh 6 x<2^21:=sh7 5 q5;have q7:0<=sh 7 x/\sh 7 x<2^14:=sh7 6 q6;have q8:0<=sh 8 x/\sh 8 x<2^7:=sh7 7 q7;unfold B5;simp only[A7,Ge,ge127];rw[tZ h0 oaa,tZ q1.1 oaa,tZ q2.1 oaa,tZ q3.1 oaa,tZ q4.1 oaa,tZ q5.1 oaa,tZ q6.1 oaa,tZ q7.1 oaa];rfl
def TO{S:Nat}{m:Mem}{γ:Gam}{x:Value}(h:Rep m γ (.v<|.slice none 0 0) x):Rep m γ (.sl S []) x:=by simp only[Rep]at h⊢;subst h;exact⟨none,0,0,rfl,rfl,afP _,.inl trivial⟩
def aaH(k:Nat): ∀x,(A7 k x).length<=k+1:=by
 induction k with
 |zero=>intro x;exact afP _
 |succ k ih=>
  intro x;unfold A7;cases decide (x>127)with
  |true=>simpa using ih _
  |false=>simp
def jj(x:Int):(dx x).length<=9:=by
 unfold dx;cases Int.fdiv x (2^63) !=0 with
 |true=>simp
 |false=>exact aaH 8 x
def Ri(x:Int)(h0:0<=x):aY pg 15 [.v (.int .u64 x)] [] [] (.sl 1<|(dx x).map u8C) []:=by
 cases h:Int.fdiv x (2^63) !=0 with
 |true=>rw[show dx x=[] by simp only[dx,h,af2]];exact BN (adh x h) λm γ v h=>TO h
 |false=>have k:=FU (put15 x h0 h) oaj oaj;rwa[adj,show A7 8 x=dx x by simp only[dx,h,af8]]at k
def ab6{x:Int}(h0:0<=x):decide (x>=9223372036854775808)=(Int.fdiv x (2^63) !=0):=by
 rw[agS _ oay];cases hb:x/2^63 !=0 with
 |true=>exact afT (by have:=F4 hb;omega)
 |false=>exact afU (by have:=fY hb;omega)
def Rk(x:Int)(h0:0<=x):aY pg 16 [.v (.int .u64 x)] [] [] (.sl 1<|(dx x).map u8C) []:=by
 cases h:Int.fdiv x (2^63) !=0 with
 |true=>rw[show dx x=[] by simp only[dx,h,af2]];exact BN (adi x<|(ab6 h0).trans h) λm γ v h=>TO h
 |false=>have hb:=(ab6 h0).trans h;have k:=FU (put16 x h0 hb) oaj oaj;rwa[adk h0 (fd63 h0 h),show A7 8 x=dx x by simp only[dx,h,af8]]at k
def s6(c:Int):Bool:=(bif decide (c>=97)then((decide<|c<=122)||((decide<|c>=65)&&decide (c<=90)))else((decide<|c>=65)&&decide (c<=90)))
abbrev zp:GT:=(.r [bT]<|.a (.a (.r (.k::bT::bT::.k::uFF 6 [bT]) .nil)<|.a (.r [.k,bT,bT,.k,bT,bT,.k,bT,bT,bT,.k,bT,bT] .nil)<|.r [.k,bT,bT,.k,bT,bT,.k,bT,bF,bF,bT,bT] .nil)<|.a (.r [.k,bF,bF,bT,bT,.k,bT,bT,bT,.k,bT,bT] .nil)<|.r [.k,bF,bF,bT,bT,.k,bT,bF,bF,bT,bT] .nil)
def Rl(c:Int):aY pg 144 [.v (.int .u8 c)] [] [] (B<|s6 c) []:=
 aV 144 zp
 (an a0<|aO (λ(h0:(decide<|c>=97)=true)=>(aO (λ(h1:(decide<|c<=122)=true)=>(an (aN 5<|ac (n2 h1)<|aN 2<|ac h0<|a1 a0)<|bE<|show s6 c=_ from(cdT h0<|orT h1)))<|λh1=>(aO (λ(h2:(decide<|c>=65)=true)=>(an (aN 3<|ac h2<|aN 3<|ac (au h1)<|aN 2<|ac h0<|a1 a0)<|bE<|show s6 c=_ from(cdT h0<|orF h1<|aD h2 rfl)))<|λh2=>(an (aN 2<|ac (au h2)<|aN 3<|ac (au h1)<|aN 2<|ac h0<|a1 a0)<|bE<|show s6 c=_ from(cdT h0<|orF h1<|bg h2)))))<|λh0=>(aO (λ(h1:(decide<|c>=65)=true)=>(an (aN 3<|ac h1<|aN 5<|ac (au h0)<|a1 a0)<|bE<|show s6 c=_ from(cdF h0<|aD h1 rfl)))<|λh1=>(an (aN 2<|ac (au h1)<|aN 5<|ac (au h0)<|a1 a0)<|bE<|show s6 c=_ from(cdF h0<|bg h1))))
def i129(c:Int):cj:=⟨144,[.v (.int .u8 c)],B (s6 c),True⟩
def Jw(c:Int):(i129 c).bS pg:=da λhp=>Rl c
def Jx(c:Int):Bool:=((decide<|c>=48)&&decide (c<=57))
abbrev zBy:GT:=(.r [bT]<|.a (.r [.k,bT,bT,.k,bT] .nil)<|.r [.k,bF,bF,bT] .nil)
section
variable(c:Int)
def TP:aY pg 151 [.v (.int .u8 c)] [] [] (B<|Jx c) []:=
 aV 151 zBy
 (an a0<|aO (λ(h0:(decide<|c>=48)=true)=>(an (aN 2<|ac h0<|a1 a0)<|bE<|show Jx c=(decide<|c<=57)from(aD h0 rfl)))<|λh0=>(an (a1<|ac (au h0)<|a1 a0)<|bE<|show Jx c=false from(bg h0)))
def i136:cj:=⟨151,[.v (.int .u8 c)],B (Jx c),True⟩
def g136:(i136 c).bS pg:=da λhp=>TP c
def s7:Bool:=(bif decide (c>=97)then((decide<|c<=122)||((decide<|c>=65)&&decide (c<=90)))else((decide<|c>=65)&&decide (c<=90)))
def Rm:aY pg 149 [.v (.int .u8 c)] [] [] (B<|s7 c) []:=
 aV 149 zp
 (an a0<|aO (λ(h0:(decide<|c>=97)=true)=>(aO (λ(h1:(decide<|c<=122)=true)=>(an (aN 5<|ac (n2 h1)<|aN 2<|ac h0<|a1 a0)<|bE<|show s7 c=_ from(cdT h0<|orT h1)))<|λh1=>(aO (λ(h2:(decide<|c>=65)=true)=>(an (aN 3<|ac h2<|aN 3<|ac (au h1)<|aN 2<|ac h0<|a1 a0)<|bE<|show s7 c=_ from(cdT h0<|orF h1<|aD h2 rfl)))<|λh2=>(an (aN 2<|ac (au h2)<|aN 3<|ac (au h1)<|aN 2<|ac h0<|a1 a0)<|bE<|show s7 c=_ from(cdT h0<|orF h1<|bg h2)))))<|λh0=>(aO (λ(h1:(decide<|c>=65)=true)=>(an (aN 3<|ac h1<|aN 5<|ac (au h0)<|a1 a0)<|bE<|show s7 c=_ from(cdF h0<|aD h1 rfl)))<|λh1=>(an (aN 2<|ac (au h1)<|aN 5<|ac (au h0)<|a1 a0)<|bE<|show s7 c=_ from(cdF h0<|bg h1))))
def i134:cj:=⟨149,[.v (.int .u8 c)],B (s7 c),True⟩
def Rn:(i134 c).bS pg:=da λhp=>Rm c
def Jy:Bool:=((decide<|c>=48)&&decide (c<=57))
def TQ:aY pg 150 [.v (.int .u8 c)] [] [] (B<|Jy c) []:=
 aV 150 zBy
 (an a0<|aO (λ(h0:(decide<|c>=48)=true)=>(an (aN 2<|ac h0<|a1 a0)<|bE<|show Jy c=(decide<|c<=57)from(aD h0 rfl)))<|λh0=>(an (a1<|ac (au h0)<|a1 a0)<|bE<|show Jy c=false from(bg h0)))
def i135:cj:=⟨150,[.v (.int .u8 c)],B (Jy c),True⟩
def g135:(i135 c).bS pg:=da λhp=>TQ c
def Gf:Bool:=((s6 c)||((Jx c)||c==95))
def Ro:aY pg 146 [.v (.int .u8 c)] [] [] (B<|Gf c) []:=
 aV 146 (.r [bT]<|.a (.r (.int 0::uFF 4 [bT]) .nil)<|.a (.r [.int 0,bT,bT,.int 1,bF,bF,bT] .nil)<|.r [.int 0,bT,bT,.int 1,bT,bT,.k,bT] .nil)
 (an a0<|aO (λ(h0:(s6 c)=true)=>(an (aN 3<|ac (n2 h0)<|cA (Jw c) trivial a0)<|bE<|show Gf c=true from(orT h0)))<|λh0=>(aO (λ(h1:(Jx c)=true)=>(an (a1<|ac (n2 h1)<|cA (g136 c) trivial<|a1<|ac (au h0)<|cA (Jw c) trivial a0)<|bE<|show Gf c=true from(orF h0<|orT h1)))<|λh1=>(an (aN 2<|ac (au h1)<|cA (g136 c) trivial<|a1<|ac (au h0)<|cA (Jw c) trivial a0)<|bE<|show Gf c=(c==95)from(orF h0<|orF h1 rfl)))) (hc:=(bn (.cons (Jw c) rfl<|.cons (g136 c) rfl cy.nil) aE))
def i131:cj:=⟨146,[.v (.int .u8 c)],B (Gf c),True⟩
def g131:(i131 c).bS pg:=da λhp=>Ro c
end
def TR:Code:=bD 0 (aG 143)
abbrev Jz(s:ByteArray)(i0:Nat):Am.Loc:=[(0,S s),(3,I (i0:Int))]
abbrev JA(s:ByteArray)(i0:Nat):lXE:=[]
def nT(s:ByteArray)(i0:Nat):Bool:=((!(s7<|dh s i0))&&((!(Jy<|dh s i0))&&((dh s i0) !=95)))
def l7(s:ByteArray):Bool:=dA (ByteArray.size s) (nT s)
abbrev Mr(s:ByteArray)(i0:Nat):Am.Loc:=[(2,B false)]
abbrev Ms(s:ByteArray)(i0:Nat):lXE:=[]
abbrev Mt(s:ByteArray):Am.Loc:=[(0,S s)]
abbrev Mu(s:ByteArray):lXE:=[]
def DA(s:ByteArray):KB:=anK 0 (ByteArray.size s) (nT s) (Jz s) (JA s) .ret (Mr s) (Ms s) (.exit 0) (Mt s) (Mu s) (True)
abbrev zb:=(range 0)
abbrev xz(s:ByteArray)(i0:Nat):List bf:=[htW (nT s i0) .ret (Mr s i0) zb (Ms s i0),nxW (nT s i0) (Jz s<|i0+1) (JA s<|i0+1) (Jz s<|i0+1) zb (JA s<|i0+1)]
abbrev zCB(i0:Nat):List Gi:=[.int ↑(i0+1),bT]
abbrev zD(i0:Nat):GT:=(.r (zCB i0)<|.pick 1)
abbrev zE:GT:=(.r [.k,bT]<|.no<|.pick 0)
abbrev zBe(s:ByteArray):=(decide<|(((ByteArray.size s):Nat):Int)<(ByteArray.size s:Int))
abbrev zDH(i0:Nat)(s:ByteArray):=(decide<|(i0:Int)<(ByteArray.size s:Int))
def Rq(s:ByteArray)(ls:ByteArray.size s<=9223372036854775807):cx pg 50 0 0 (.loop TR) (DA s):=
 anB (xz s) (λi0=>(.r [.k,bT]<|.yes<|.a (.a (.r (.val (.int .u8<|dh s i0)::.int 0::bT::bT::bT::.val (.int .u8<|dh s i0)::bT::.int 1::uTT 4 [.val (.int .u8<|dh s i0),bT,.k,bT])<|.br zB<|zD i0)<|.r (.val (.int .u8<|dh s i0)::.int 0::bT::bT::bT::.val (.int .u8<|dh s i0)::bT::.int 1::bT::uFF 4 [bT])<|zD i0)<|.r (.val (.int .u8<|dh s i0)::.int 0::uFF 9 [bT])<|zD i0)) (range 0) zE
 (λ_ i0(hx0:i0<(ByteArray.size s))=>have hb:(zDH i0 s)=true:=afT oaa;
 bB (an (a1 a0)<|an hb<|aO (λ(h1:(!(s7<|dh s i0))=true)=>have q0:=(aD h1 rfl:nT s i0=_);
 (aO (λ(h2:(!(Jy<|dh s i0))=true)=>have q1:=q0.trans (aD h2 rfl);
 (an (aN 2<|ac (ixB s i0 oaa)<|aN 2<|ac h2<|a1<|cA (g135<|dh s i0) trivial<|a1<|ac (ixB s i0 oaa)<|aN 2<|ac h1<|cA (Rn<|dh s i0) trivial<|ac (ixB s i0 oaa) a0)<|brP (λ(h3:((dh s i0) !=95)=true)=>(an a0<|lf (wy (xz s i0) 0) 0<|q1.trans h3))<|λh3=>have g3:=fY h3;
 (an (ac (dwo ((i0+1:Nat):Int)) a0)<|lf (wy (xz s i0) 1) 0 ⟨(q1.trans h3),rfl,rfl⟩)))<|λh2=>(an (aN 3<|ac (au h2)<|a1<|cA (g135<|dh s i0) trivial<|a1<|ac (ixB s i0 oaa)<|aN 2<|ac h1<|cA (Rn<|dh s i0) trivial<|ac (ixB s i0 oaa) a0)<|an (ac (dwo ((i0+1:Nat):Int)) a0)<|lf (wy (xz s i0) 1) 0 ⟨(q0.trans<|bg h2),rfl,rfl⟩)))<|λh1=>(an (aN 8<|ac (au h1)<|cA (Rn<|dh s i0) trivial<|ac (ixB s i0 oaa) a0)<|an (ac (dwo ((i0+1:Nat):Int)) a0)<|lf (wy (xz s i0) 1) 0 ⟨(show nT s i0=false from(bg h1)),rfl,rfl⟩))
 oab)
 (λ_=>have hb:(zBe s)=false:=afU oaa;
 bB (an (a1 a0)<|an hb<|lx (.exit 0) (Mt s) (range 0) (Mu s) 0)
 oab) (hc:=λ_ i0 hx0=>(bn (.cons (Rn<|dh s i0) rfl<|.cons (g135<|dh s i0) rfl cy.nil) aE))
def Gg(s:ByteArray):Bool:=(!(cT (Array.toList<|ByteArray.data s) [])&&(!(decide<|(ByteArray.size s:Int)>40)&&(!(!(s7<|dh s 0))&&(!(l7 s)&&(!(cT (Array.toList<|ByteArray.data s) [116,114,117,101])&&(!(cT (Array.toList<|ByteArray.data s) [102,97,108,115,101])&&(!(cT (Array.toList<|ByteArray.data s) [111,114,97,99,108,101])&&(!(cT (Array.toList<|ByteArray.data s) [105,110,100,101,120])&&(!(cT (Array.toList<|ByteArray.data s) [99,111,108,117,109,110])&&(!(cT (Array.toList<|ByteArray.data s) [108,97])&&(!(cT (Array.toList<|ByteArray.data s) [109,111,100,101]))))))))))))
def re:di [0] (aG 143)=[(0,.loop TR)]:=by kernel_rfl
def aaI(s:ByteArray)(ls:ByteArray.size s<=9223372036854775807):aY pg 143 [S s] [] [] (B<|Gg s) []:=
 aV 143 (.r [bT]<|.a (.r (.k::uFF 7 [bT]) zF)<|.a (.r (.k::bT::bT::bT::.k::uFF 4 [bT]) zF)<|.r [.k,bT,bT,bT,.k,bT,bT,.val (.int .u8<|dh s 0),bT,.int 0,bT,bT]<|.br zF<|.r [bT]<|.br .nil<|.r [bT]<|.r [.k,bT]<|.br zF<|.r [.k,bT]<|.br zF<|.r [.k,bT]<|.br zF<|.r [.k,bT]<|.br zF<|.r [.k,bT]<|.br zF<|.r [.k,bT]<|.br zF<|.r [.k,bT]<|.br zF zF)
 (an a0<|aO (λ(h0:(cT (Array.toList<|ByteArray.data s) [])=true)=>(an (aN 6<|ac (n2 h0)<|a1 a0)<|an a0<|bE<|show Gg s=false from(bg<|cI h0)))<|λh0=>have q0:=(aD (au h0) rfl:Gg s=_);have g0:=size_pos h0;
 (aO (λ(h1:(decide<|(ByteArray.size s:Int)>40)=true)=>(an (aN 3<|ac (n2 h1)<|aN 3<|ac (au h0)<|a1 a0)<|an a0<|bE<|q0.trans<|bg<|cI h1))<|λh1=>have q1:=q0.trans (aD (au h1) rfl);have g1:=afN h1;
 (an (a1<|cA (Rn<|dh s 0) trivial<|a1<|ac (ixB s 0 oaa)<|a1<|ac (au h1)<|aN 3<|ac (au h0)<|a1 a0)<|brP (λ(h2:(!(s7<|dh s 0))=true)=>(an a0<|bE<|q1.trans<|bg<|cI h2))<|λh2=>have q2:=q1.trans (aD (au h2) rfl);
 (an a0<|an (kbT (DA s) trivial)<|brP (λ(h3:(l7 s)=true)=>(bE<|q2.trans<|bg<|cI h3))<|λh3=>have q3:=q2.trans (aD (au h3) rfl);
 (an a0<|an (a1 a0)<|brP (λ(h4:(cT (Array.toList<|ByteArray.data s) [116,114,117,101])=true)=>(an a0<|bE<|q3.trans<|bg<|cI h4))<|λh4=>have q4:=q3.trans (aD (au h4) rfl);
 (an (a1 a0)<|brP (λ(h5:(cT (Array.toList<|ByteArray.data s) [102,97,108,115,101])=true)=>(an a0<|bE<|q4.trans<|bg<|cI h5))<|λh5=>have q5:=q4.trans (aD (au h5) rfl);
 (an (a1 a0)<|brP (λ(h6:(cT (Array.toList<|ByteArray.data s) [111,114,97,99,108,101])=true)=>(an a0<|bE<|q5.trans<|bg<|cI h6))<|λh6=>have q6:=q5.trans (aD (au h6) rfl);
 (an (a1 a0)<|brP (λ(h7:(cT (Array.toList<|ByteArray.data s) [105,110,100,101,120])=true)=>(an a0<|bE<|q6.trans<|bg<|cI h7))<|λh7=>have q7:=q6.trans (aD (au h7) rfl);
 (an (a1 a0)<|brP (λ(h8:(cT (Array.toList<|ByteArray.data s) [99,111,108,117,109,110])=true)=>(an a0<|bE<|q7.trans<|bg<|cI h8))<|λh8=>have q8:=q7.trans (aD (au h8) rfl);
 (an (a1 a0)<|brP (λ(h9:(cT (Array.toList<|ByteArray.data s) [108,97])=true)=>(an a0<|bE<|q8.trans<|bg<|cI h9))<|λh9=>have q9:=q8.trans (aD (au h9) rfl);
 (an (a1 a0)<|brP (λ(h10:(cT (Array.toList<|ByteArray.data s) [109,111,100,101])=true)=>(an a0<|bE<|q9.trans<|cI h10))<|λh10=>(an a0<|bE<|q9.trans<|au h10)))))))))))) (hc:=(bn (.cons (Rn<|dh s 0) rfl cy.nil) aE)) (hk:=(bw (l:=[(0,DA s)]) re (aK (Rq s ls) rfl aU) rfl))
def TS:Code:=bD 0 (aG 145)
abbrev JB(s:ByteArray)(i0:Nat):Am.Loc:=[(0,S s),(1,.fn (.func 146) [] []),(5,I (i0:Int))]
abbrev JC(s:ByteArray)(i0:Nat):lXE:=[]
def kA(s:ByteArray)(i0:Nat):Bool:=(!(Gf<|dh s i0))
def rh(s:ByteArray):Bool:=dA (ByteArray.size s) (kA s)
abbrev Mv(s:ByteArray)(i0:Nat):Am.Loc:=[(5,I (i0:Int))]
abbrev Mw(s:ByteArray)(i0:Nat):lXE:=[]
abbrev Mx(s:ByteArray):Am.Loc:=[(5,I (((ByteArray.size s):Nat):Int))]
abbrev My(s:ByteArray):lXE:=[]
def DB(s:ByteArray):KB:=anK 0 (ByteArray.size s) (kA s) (JB s) (JC s) (.exit 0) (Mv s) (Mw s) (.exit 0) (Mx s) (My s) (True)
abbrev JD(s:ByteArray)(i0:Nat):List bf:=[nxW (kA s i0) (JB s<|i0+1) (JC s<|i0+1) (JB s<|i0+1) zb (JC s<|i0+1),htW (kA s i0) (.exit 0) (Mv s i0) zb (Mw s i0)]
abbrev zU(i0:Nat):GT:=(.r (zCB i0)<|.pick 0)
def Rr(s:ByteArray)(ls:ByteArray.size s<=9223372036854775807):cx pg 20 0 0 (.loop TS) (DB s):=
 anB (JD s) (λi0=>(.r (.k::uTT 4 [.val (.int .u8<|dh s i0),bT,.int 0,bT])<|.br (zU i0)<|.pick 1)) (range 0) (.r (.k::uFF 5 [bT])<|.pick 0)
 (λ_ i0(hx0:i0<(ByteArray.size s))=>have hb:(zDH i0 s)=true:=afT oaa;
 bB (an (cA (g131<|dh s i0) trivial<|a1<|ac (ixB s i0 oaa)<|aN 3<|ac hb<|a1 a0)<|brP (λ(h1:(Gf<|dh s i0)=true)=>(an (ac (dwo ((i0+1:Nat):Int)) a0)<|lf (wy (JD s i0) 0) 0 ⟨(show kA s i0=false from(cI h1)),rfl,rfl⟩))<|λh1=>(lf (wy (JD s i0) 1) 0<|show kA s i0=true from(au h1)))
 oab)
 (λ_=>have hb:(zBe s)=false:=afU oaa;
 bB (an (aN 4<|ac (au hb)<|a1 a0)<|lx (.exit 0) (Mx s) (range 0) (My s) 0)
 oab) (hc:=λ_ i0 hx0=>(bn (.cons (g131<|dh s i0) rfl cy.nil) aE))
def Gh(s:ByteArray):Int:=(bif rh s then(((lB (ByteArray.size s)<|kA s):Nat):Int)else(((ByteArray.size s):Nat):Int))
def rk:di [0] (aG 145)=[(0,.loop TS)]:=by kernel_rfl
section
variable(s:ByteArray)
def TT(ls:ByteArray.size s<=9223372036854775807):aY pg 145 [S s,.fn (.func 146) [] []] [] [] (I<|Gh s) []:=
 aV 145 (.r [bT]<|.r [bT]<|.br zF zF)
 (an a0<|an a0<|an (kbT (DB s) trivial)<|brP (λ(h0:(rh s)=true)=>(an a0<|iE<|show Gh s=_ from(cdT h0 rfl)))<|λh0=>(an a0<|iE<|show Gh s=_ from(cdF h0 rfl))) (hk:=(bw (l:=[(0,DB s)]) rk (aK (Rr s ls) rfl aU) rfl))
def i126:cj:=⟨143,[S s],B (Gg s),s.size<=9223372036854775807⟩
def g126:(i126 s).bS pg:=da λhp=>aaI s hp
def i130:cj:=⟨145,[S s,.fn (.func 146) [] []],I (Gh s),s.size<=9223372036854775807⟩
def g130:(i130 s).bS pg:=da λhp=>TT s hp
end
def i133:cj:=⟨148,[],.sl 1 (aI TH),True⟩
def Rt:i133.bS pg:=λ_=>⟨aaF,rfl,rfl⟩
def Gj(s:ByteArray):Bool:=(!(cT (Array.toList<|ByteArray.data s) [])&&(!(decide<|(ByteArray.size s:Int)>40)&&(!(!(s6<|dh s 0))&&(!(decide<|(Gh s)<(ByteArray.size s:Int))&&(!(cT (Array.toList<|ByteArray.data s) [116,114,117,101])&&(!(cT (Array.toList<|ByteArray.data s) [102,97,108,115,101])&&(!(cT (Array.toList<|ByteArray.data s) [111,114,97,99,108,101])&&(!(cT (Array.toList<|ByteArray.data s) [105,110,100,101,120])&&(!(cT (Array.toList<|ByteArray.data s) [99,111,108,117,109,110])&&(!(cT (Array.toList<|ByteArray.data s) [108,97])&&(!(cT (Array.toList<|ByteArray.data s) [109,111,100,101]))))))))))))
abbrev zI(s:ByteArray):lXF:=[.sl 1 [[S (⟨#[105,110,100,101,120]⟩)],[S (⟨#[99,111,108,117,109,110]⟩)],[S (⟨#[108,97]⟩)],[S (⟨#[109,111,100,101]⟩)]],S s]
abbrev zBf:List Gi:=(.k::uFF 12 [bT])
section
variable(s:ByteArray)
def TU(ls:ByteArray.size s<=9223372036854775807):aY pg 142 [S s] [] [] (B<|Gj s) []:=
 aV 142 (.r [bT]<|.a (.r zBf zF)<|.a (.r (.k::bT::bT::bT::.k::uFF 9 [bT]) zF)<|.a (.r (.k::bT::bT::bT::.k::bT::bT::.val (.int .u8<|dh s 0)::bT::.int 0::bT::uFF 5 [bT]) zF)<|.r [.k,bT,bT,bT,.k,bT,bT,.val (.int .u8<|dh s 0),bT,.int 0,bT,bT,bT,.int 1,bT,bT,bT,.k,bT]<|.br zF<|.r [bT]<|.r [.k,bT]<|.br zF<|.r [.k,bT]<|.br zF<|.r [.k,bT]<|.br zF<|.a (.r [.int 2,.k,.row [S (⟨#[105,110,100,101,120]⟩)],bT,.k,bT] .nil)<|.a (.r [.int 2,.k,.row [S (⟨#[105,110,100,101,120]⟩)],bF,.int 1,.k,.row [S (⟨#[99,111,108,117,109,110]⟩)],bT,.k,bT] .nil)<|.a (.r [.int 2,.k,.row [S (⟨#[105,110,100,101,120]⟩)],bF,.int 1,.k,.row [S (⟨#[99,111,108,117,109,110]⟩)],bF,.int 2,.k,.row [S (⟨#[108,97]⟩)],bT,.k,bT] .nil)<|.a (.r [.int 2,.k,.row [S (⟨#[105,110,100,101,120]⟩)],bF,.int 1,.k,.row [S (⟨#[99,111,108,117,109,110]⟩)],bF,.int 2,.k,.row [S (⟨#[108,97]⟩)],bF,.int 3,.k,.row [S (⟨#[109,111,100,101]⟩)],bT,.k,bT] .nil)<|.r [.int 2,.k,.row [S (⟨#[105,110,100,101,120]⟩)],bF,.int 1,.k,.row [S (⟨#[99,111,108,117,109,110]⟩)],bF,.int 2,.k,.row [S (⟨#[108,97]⟩)],bF,.int 3,.k,.row [S (⟨#[109,111,100,101]⟩)],bF,.int 4,.k,.k,bT] .nil)
 (an a0<|aO (λ(h0:(cT (Array.toList<|ByteArray.data s) [])=true)=>(an (aN 11<|ac (n2 h0)<|a1 a0)<|an a0<|bE<|show Gj s=false from(bg<|cI h0)))<|λh0=>have q0:=(aD (au h0) rfl:Gj s=_);have g0:=size_pos h0;
 (aO (λ(h1:(decide<|(ByteArray.size s:Int)>40)=true)=>(an (aN 8<|ac (n2 h1)<|aN 3<|ac (au h0)<|a1 a0)<|an a0<|bE<|q0.trans<|bg<|cI h1))<|λh1=>have q1:=q0.trans (aD (au h1) rfl);have g1:=afN h1;
 (aO (λ(h2:(!(s6<|dh s 0))=true)=>(an (aN 4<|ac (n2 h2)<|a1<|cA (Jw<|dh s 0) trivial<|a1<|ac (ixB s 0 oaa)<|a1<|ac (au h1)<|aN 3<|ac (au h0)<|a1 a0)<|an a0<|bE<|q1.trans<|bg<|cI h2))<|λh2=>have q2:=q1.trans (aD (au h2) rfl);
 (an (aN 4<|cA (g130 s) ls<|a1<|ac (au h2)<|a1<|cA (Jw<|dh s 0) trivial<|a1<|ac (ixB s 0 oaa)<|a1<|ac (au h1)<|aN 3<|ac (au h0)<|a1 a0)<|brP (λ(h3:(decide<|(Gh s)<(ByteArray.size s:Int))=true)=>(an a0<|bE<|q2.trans<|bg<|cI h3))<|λh3=>have q3:=q2.trans (aD (au h3) rfl);
 (an a0<|an (a1 a0)<|brP (λ(h4:(cT (Array.toList<|ByteArray.data s) [116,114,117,101])=true)=>(an a0<|bE<|q3.trans<|bg<|cI h4))<|λh4=>have q4:=q3.trans (aD (au h4) rfl);
 (an (a1 a0)<|brP (λ(h5:(cT (Array.toList<|ByteArray.data s) [102,97,108,115,101])=true)=>(an a0<|bE<|q4.trans<|bg<|cI h5))<|λh5=>have q5:=q4.trans (aD (au h5) rfl);
 (an (a1 a0)<|brP (λ(h6:(cT (Array.toList<|ByteArray.data s) [111,114,97,99,108,101])=true)=>(an a0<|bE<|q5.trans<|bg<|cI h6))<|λh6=>have q6:=q5.trans (aD (au h6) rfl);
 (aO (λ(h7:(cT (Array.toList<|ByteArray.data s) [105,110,100,101,120])=true)=>(an (aN 3<|ac h7<|ac (bQ<|some [S (⟨#[105,110,100,101,120]⟩)])<|a1<|ac (pvA (zI s) oat)<|ac (pvA (zI s) oat)<|cA Rt trivial a0)<|bE<|q6.trans<|bg<|cI h7))<|λh7=>have q7:=q6.trans (aD (au h7) rfl);
 (aO (λ(h8:(cT (Array.toList<|ByteArray.data s) [99,111,108,117,109,110])=true)=>(an (aN 3<|ac h8<|ac (bQ<|some [S (⟨#[99,111,108,117,109,110]⟩)])<|a1<|ac (bQ (1:Int))<|ac (au h7)<|ac (bQ<|some [S (⟨#[105,110,100,101,120]⟩)])<|a1<|ac (pvA (zI s) oat)<|ac (pvA (zI s) oat)<|cA Rt trivial a0)<|bE<|q7.trans<|bg<|cI h8))<|λh8=>have q8:=q7.trans (aD (au h8) rfl);
 (aO (λ(h9:(cT (Array.toList<|ByteArray.data s) [108,97])=true)=>(an (aN 3<|ac h9<|ac (bQ<|some [S (⟨#[108,97]⟩)])<|a1<|ac (bQ (2:Int))<|ac (au h8)<|ac (bQ<|some [S (⟨#[99,111,108,117,109,110]⟩)])<|a1<|ac (bQ (1:Int))<|ac (au h7)<|ac (bQ<|some [S (⟨#[105,110,100,101,120]⟩)])<|a1<|ac (pvA (zI s) oat)<|ac (pvA (zI s) oat)<|cA Rt trivial a0)<|bE<|q8.trans<|bg<|cI h9))<|λh9=>have q9:=q8.trans (aD (au h9) rfl);
 (aO (λ(h10:(cT (Array.toList<|ByteArray.data s) [109,111,100,101])=true)=>(an (aN 3<|ac h10<|ac (bQ<|some [S (⟨#[109,111,100,101]⟩)])<|a1<|ac (bQ (3:Int))<|ac (au h9)<|ac (bQ<|some [S (⟨#[108,97]⟩)])<|a1<|ac (bQ (2:Int))<|ac (au h8)<|ac (bQ<|some [S (⟨#[99,111,108,117,109,110]⟩)])<|a1<|ac (bQ (1:Int))<|ac (au h7)<|ac (bQ<|some [S (⟨#[105,110,100,101,120]⟩)])<|a1<|ac (pvA (zI s) oat)<|ac (pvA (zI s) oat)<|cA Rt trivial a0)<|bE<|q9.trans<|cI h10))<|λh10=>(an (aN 4<|ac (bQ (4:Int))<|ac (au h10)<|ac (bQ<|some [S (⟨#[109,111,100,101]⟩)])<|a1<|ac (bQ (3:Int))<|ac (au h9)<|ac (bQ<|some [S (⟨#[108,97]⟩)])<|a1<|ac (bQ (2:Int))<|ac (au h8)<|ac (bQ<|some [S (⟨#[99,111,108,117,109,110]⟩)])<|a1<|ac (bQ (1:Int))<|ac (au h7)<|ac (bQ<|some [S (⟨#[105,110,100,101,120]⟩)])<|a1<|ac (pvA (zI s) oat)<|ac (pvA (zI s) oat)<|cA Rt trivial a0)<|bE<|q9.trans<|au h10)))))))))))) (hc:=(bn (.cons (Jw<|dh s 0) rfl<|.cons (g130 s) rfl<|.cons Rt rfl cy.nil) aE))
def i125:cj:=⟨142,[S s],B (Gj s),s.size<=9223372036854775807⟩
def g125:(i125 s).bS pg:=da λhp=>TU s hp
end
def fo(g:G):Bool:=(!((length (map gC g.kids):Int) !=0)&&(bif g.op==9 then((cT (Array.toList<|ByteArray.data g.name) [])&&((decide<|g.n<1000000000000000000)&&decide (g.n>(-1000000000000000000))))else(bif g.op==10 then((cT (Array.toList<|ByteArray.data g.name) [])&&g.n==0)else(bif g.op==11 then((cT (Array.toList<|ByteArray.data g.name) [])&&g.n==0)else(bif g.op==12 then((cT (Array.toList<|ByteArray.data g.name) [])&&g.n==0)else(bif g.op==13 then((cT (Array.toList<|ByteArray.data g.name) [])&&g.n==0)else((g.op==14)&&((g.n==0)&&Gg g.name))))))))
abbrev zJ:List Gi:=(.k::uFF 6 [bT])
abbrev zCI:List Gi:=[.k,bT,bT,bT,.k,bF,bF,bF,bT]
abbrev zDA:List Gi:=[.k,bT,bT,bT,.k,bT,bT,bT,.k,bT]
abbrev zV:GT:=(.a (.a (.r zDA .nil)<|.r zCI .nil)<|.r zJ .nil)
abbrev zAX:List Gi:=[.k,bF,bF,bF,bT]
abbrev zz:GT:=(.a (.r [.k,bT,bT,bT,.int 0,bT] .nil)<|.r zAX .nil)
abbrev zAD:List Gi:=[.k,bT,bT,bT,.k,bT]
abbrev zBE:GT:=(.a (.r zAD .nil)<|.r zAX .nil)
abbrev zBa(g:G):=(decide<|g.n>(-1000000000000000000))
abbrev zBk(g:G):=(decide<|g.n<1000000000000000000)
def Ru(g:G)(ls:ByteArray.size g.name<=9223372036854775807):aY pg 138 [.ag (gCC g)] [] [] (B<|fo g) []:=
 aV 138 (.r [bT]<|.r [.k,bT]<|.br zF<|.r [bT]<|.r [.k,bT]<|.br zV<|.r [.k,bT]<|.br zBE<|.r [.k,bT]<|.br zBE<|.r [.k,bT]<|.br zBE<|.r [.k,bT]<|.br zBE<|.r [.k,bT]<|.br zz zF)
 (an a0<|an (a1 a0)<|brP (λ(h0:((length (map gC g.kids):Int) !=0)=true)=>(an a0<|bE<|show fo g=false from(bg<|cI h0)))<|λh0=>have q0:=(aD (au h0) rfl:fo g=_);
 (an a0<|an (a1 a0)<|brP (λ(h1:(g.op==9)=true)=>have q1:=q0.trans (cdT h1 rfl);
 (aO (λ(h2:(cT (Array.toList<|ByteArray.data g.name) [])=true)=>(aO (λ(h3:(zBk g)=true)=>(an (aN 3<|ac h3<|aN 3<|ac h2<|a1 a0)<|bE<|show fo g=(zBa g)from(aD (au h0)<|cdT h1<|aD h2<|aD h3 rfl)))<|λh3=>(an (aN 2<|ac (au h3)<|aN 3<|ac h2<|a1 a0)<|bE<|q1.trans<|aD h2<|bg h3)))<|λh2=>(an (aN 5<|ac (au h2)<|a1 a0)<|bE<|q1.trans<|bg h2)))<|λh1=>have q2:=q0.trans (cdF h1 rfl);
 (an (a1 a0)<|brP (λ(h2:(g.op==10)=true)=>(aO (λ(h3:(cT (Array.toList<|ByteArray.data g.name) [])=true)=>(an (aN 3<|ac h3<|a1 a0)<|bE<|show fo g=(g.n==0)from(aD (au h0)<|cdF h1<|cdT h2<|aD h3 rfl)))<|λh3=>(an (aN 2<|ac (au h3)<|a1 a0)<|bE<|q2.trans<|cdT h2<|bg h3)))<|λh2=>have q3:=q2.trans (cdF h2 rfl);
 (an (a1 a0)<|brP (λ(h3:(g.op==11)=true)=>(aO (λ(h4:(cT (Array.toList<|ByteArray.data g.name) [])=true)=>(an (aN 3<|ac h4<|a1 a0)<|bE<|show fo g=(g.n==0)from(aD (au h0)<|cdF h1<|cdF h2<|cdT h3<|aD h4 rfl)))<|λh4=>(an (aN 2<|ac (au h4)<|a1 a0)<|bE<|q3.trans<|cdT h3<|bg h4)))<|λh3=>have q4:=q3.trans (cdF h3 rfl);
 (an (a1 a0)<|brP (λ(h4:(g.op==12)=true)=>(aO (λ(h5:(cT (Array.toList<|ByteArray.data g.name) [])=true)=>(an (aN 3<|ac h5<|a1 a0)<|bE<|show fo g=(g.n==0)from(aD (au h0)<|cdF h1<|cdF h2<|cdF h3<|cdT h4<|aD h5 rfl)))<|λh5=>(an (aN 2<|ac (au h5)<|a1 a0)<|bE<|q4.trans<|cdT h4<|bg h5)))<|λh4=>have q5:=q4.trans (cdF h4 rfl);
 (an (a1 a0)<|brP (λ(h5:(g.op==13)=true)=>(aO (λ(h6:(cT (Array.toList<|ByteArray.data g.name) [])=true)=>(an (aN 3<|ac h6<|a1 a0)<|bE<|show fo g=(g.n==0)from(aD (au h0)<|cdF h1<|cdF h2<|cdF h3<|cdF h4<|cdT h5<|aD h6 rfl)))<|λh6=>(an (aN 2<|ac (au h6)<|a1 a0)<|bE<|q5.trans<|cdT h5<|bg h6)))<|λh5=>have q6:=q5.trans (cdF h5 rfl);
 (an (a1 a0)<|brP (λ(h6:(g.op==14)=true)=>(aO (λ(h7:(g.n==0)=true)=>(an (cA (g126 g.name) ls<|aN 2<|ac h7<|a1 a0)<|bE<|show fo g=(Gg g.name)from(aD (au h0)<|cdF h1<|cdF h2<|cdF h3<|cdF h4<|cdF h5<|aD h6<|aD h7 rfl)))<|λh7=>(an (aN 2<|ac (au h7)<|a1 a0)<|bE<|q6.trans<|aD h6<|bg h7)))<|λh6=>(an a0<|bE<|q6.trans<|bg h6)))))))) (hc:=(bn (.cons (g126 g.name) rfl cy.nil) aE))
def Gk(g:G):Bool:=(!(decide<|(length (map gC g.kids):Int)>0)&&(!(decide<|g.op<9)&&(!(decide<|g.op>14)&&(bif g.op==9 then((cT (Array.toList<|ByteArray.data g.name) [])&&((decide<|g.n<1000000000000000000)&&decide (g.n>(-1000000000000000000))))else(bif g.op==14 then((g.n==0)&&Gj g.name)else((cT (Array.toList<|ByteArray.data g.name) [])&&g.n==0))))))
def Rv(g:G)(ls:ByteArray.size g.name<=9223372036854775807):aY pg 135 [.ag (gCC g)] [] [] (B<|Gk g) []:=
 aV 135 (.r [bT]<|.a (.r zJ zF)<|.a (.r zCI zF)<|.r zDA<|.br zF<|.r [bT]<|.r [.k,bT]<|.br zV<|.r [.k,bT]<|.br zz zBE)
 (an a0<|aO (λ(h0:(decide<|(length (map gC g.kids):Int)>0)=true)=>(an (aN 5<|ac (n2 h0)<|a1 a0)<|an a0<|bE<|show Gk g=false from(bg<|cI h0)))<|λh0=>have q0:=(aD (au h0) rfl:Gk g=_);
 (aO (λ(h1:(decide<|g.op<9)=true)=>(an (aN 2<|ac (n2 h1)<|aN 3<|ac (au h0)<|a1 a0)<|an a0<|bE<|q0.trans<|bg<|cI h1))<|λh1=>have q1:=q0.trans (aD (au h1) rfl);
 (an (aN 3<|ac (au h1)<|aN 3<|ac (au h0)<|a1 a0)<|brP (λ(h2:(decide<|g.op>14)=true)=>(an a0<|bE<|q1.trans<|bg<|cI h2))<|λh2=>have q2:=q1.trans (aD (au h2) rfl);
 (an a0<|an (a1 a0)<|brP (λ(h3:(g.op==9)=true)=>have q3:=q2.trans (cdT h3 rfl);
 (aO (λ(h4:(cT (Array.toList<|ByteArray.data g.name) [])=true)=>(aO (λ(h5:(zBk g)=true)=>(an (aN 3<|ac h5<|aN 3<|ac h4<|a1 a0)<|bE<|show Gk g=(zBa g)from(aD (au h0)<|aD (au h1)<|aD (au h2)<|cdT h3<|aD h4<|aD h5 rfl)))<|λh5=>(an (aN 2<|ac (au h5)<|aN 3<|ac h4<|a1 a0)<|bE<|q3.trans<|aD h4<|bg h5)))<|λh4=>(an (aN 5<|ac (au h4)<|a1 a0)<|bE<|q3.trans<|bg h4)))<|λh3=>have q4:=q2.trans (cdF h3 rfl);
 (an (a1 a0)<|brP (λ(h4:(g.op==14)=true)=>(aO (λ(h5:(g.n==0)=true)=>(an (cA (g125 g.name) ls<|aN 2<|ac h5<|a1 a0)<|bE<|show Gk g=(Gj g.name)from(aD (au h0)<|aD (au h1)<|aD (au h2)<|cdF h3<|cdT h4<|aD h5 rfl)))<|λh5=>(an (aN 2<|ac (au h5)<|a1 a0)<|bE<|q4.trans<|cdT h4<|bg h5)))<|λh4=>(aO (λ(h5:(cT (Array.toList<|ByteArray.data g.name) [])=true)=>(an (aN 3<|ac h5<|a1 a0)<|bE<|show Gk g=(g.n==0)from(aD (au h0)<|aD (au h1)<|aD (au h2)<|cdF h3<|cdF h4<|aD h5 rfl)))<|λh5=>(an (aN 2<|ac (au h5)<|a1 a0)<|bE<|q4.trans<|cdF h4<|bg h5))))))) (hc:=(bn (.cons (g125 g.name) rfl cy.nil) aE))
mutual
def dG:G->Int
 | .mk _ _ _ l=>jc l 1
def jc:List G->Int->Int
 |[],a=>a
 |g::l,a=>jc l (min (a+dG g) 2147483647)
end
mutual
def fp (o:Int):G->Bool
 | .mk o' _ _ l=>(o'==o)||lD o l
def lD (o:Int):List G->Bool
 |[]=>false
 |g::l=>fp o g||lD o l
end
theorem xA(o:Int)(l:List G):lD o l=l.any (fp o):=by
 induction l with
 |nil=>rfl
 |cons g l ih=>simp[lD,ih]
def g_cells: ∀g:G,gC g=[I8 g.op,I g.n,S g.name,.sl 4 (g.kids.map gC)]
 | .mk _ _ _ _=>by grind[gC,Dp,G.op,G.n,G.name,G.kids]
theorem aw{α:Type}[Inhabited α]{l:List α}{i:Nat}(h:i<l.length):ae l i∈l:=gn h
mutual
theorem G.xB {C:G->Prop} (h: ∀o n s l,(∀u∈l,C u)->C (.mk o n s l)): ∀g,C g
 | .mk o n s l=>h o n s l (G.ind2 h l)
theorem G.ind2 {C:G->Prop} (h: ∀o n s l,(∀u∈l,C u)->C (.mk o n s l)): ∀(l:List G),∀u∈l,C u
 |[]=>λu hu=>by simp at hu
 |g::l=>λu hu=>by
  rcases agq.1 hu with e|hu
  ·rw[e];exact G.xB h g
  ·exact G.ind2 h l u hu
end
mutual
def dV:G->Prop
 | .mk o _ s l=>(-128<=o/\o<=127)/\s.size<=9223372036854775807/\l.length<=9223372036854775807/\xC l
def xC:List G->Prop
 |[]=>True
 |g::l=>dV g/\xC l
end
def B6: ∀{l:List G},xC l-> ∀u∈l,dV u
 |[],_,u,hu=>by simp at hu
 |g::l,h,u,hu=>by
  simp only[xC]at h;rcases agq.1 hu with rfl|hu
  ·exact h.1
  ·exact B6 h.2 u hu
theorem dV.kids{g:G}(h:dV g): ∀u∈g.kids,dV u:=by obtain⟨o,n,s,l⟩:=g;simp only[dV]at h;exact B6 h.2.2.2
theorem dV.name{g:G}(h:dV g):g.name.size<=9223372036854775807:=by obtain⟨o,n,s,l⟩:=g;simp only[dV]at h;exact h.2.1
theorem dV.len{g:G}(h:dV g):g.kids.length<=9223372036854775807:=by obtain⟨o,n,s,l⟩:=g;simp only[dV]at h;exact h.2.2.1
theorem dV.op{g:G}(h:dV g): -128<=g.op/\g.op<=127:=by obtain⟨o,n,s,l⟩:=g;simp only[dV]at h;exact h.1
def j0{α:Type}[Inhabited α](p:α->Bool)(l:List α):dA l.length (λi=>p<|ae l i)=l.any p:=by
 rw[Bool.eq_iff_iff,fD,List.any_eq_true];constructor
 ·grind[gn]
 ·rintro⟨x,hx,hp⟩;obtain⟨i,hi,rfl⟩:=List.mem_iff_getElem.1 hx;exact⟨i,hi,by simpa [ae,hi]using hp⟩
theorem B7{α:Type}[Inhabited α]{l:List α}{i:Nat}(h:i<l.length):l.take (i+1)=l.take i++ [ae l i]:=by rw[List.take_add_one,fC h];rfl
theorem aaJ(s:ByteArray):Gj s=Gg s:=by
 have h2:kA s=nT s:=by grind[kA,nT,Gf,s6,s7,Jx,Jy]
 have h3:decide (Gh s<(s.size:Int))=l7 s:=by
  unfold Gh;have e:rh s=l7 s:=by unfold rh l7;rw[h2]
  rw[e];cases hh:l7 s with
  |false=>simp
  |true=>have:lB s.size (kA s)<s.size:=(iY<|show dA s.size (kA s)=true by rw[h2];exact hh).1;simp_all
 grind[Gj,Gg,s6,s7]
section
variable(g:G)
theorem Rw:Gk g=fo g:=by unfold Gk fo;rw[aaJ];grind
theorem A8(hf:dV g):aY pg 135 [.ag (gCC g)] [] [] (B<|fo g) []:=by rw[<-Rw];exact Rv g hf.name
def A9(hf:dV g):aY pg 138 [.ag (gCC g)] [] [] (B<|fo g) []:=Ru g hf.name
def i113:cj:=⟨135,[.ag (gCC g)],B (fo g),dV g⟩
def xD:(i113 g).bS pg:=da λhp=>A8 g hp
def i116:cj:=⟨138,[.ag (gCC g)],B (fo g),dV g⟩
def xE:(i116 g).bS pg:=da λhp=>A9 g hp
end
mutual
noncomputable def dB:G->Bool
 | .mk o n s l=>cT s.data.toList []&&((o==8||n==0)&&(bif o==0||o==1 then l.length==0 else bif o==8 then(l.length==0&&(decide (n<1000000000000000000)&&decide (n> -1000000000000000000)))else bif o==2 then(l.length==1&&kB l)else bif o==3||o==4 then(decide (l.length>=2)&&kB l)else bif o==5||(o==6||o==7)then(l.length==2&&(fo (ae l 0)&&fo (ae l 1)))else false))
noncomputable def kB:List G->Bool
 |[]=>true
 |g::l=>dB g&&kB l
end
theorem Gl(l:List G):kB l=l.all dB:=by
 induction l with
 |nil=>rfl
 |cons g l ih=>simp[kB,ih]
def i99(g:G):cj:=⟨125,[.ag (gCC g)],I (dG g),True⟩
def gd99{g:G}(h:aY pg 125 [.ag (gCC g)] [] [] (I<|dG g) []):(i99 g).bS pg:=λ_=>⟨h,by simp[i99,aj,AV.pure],rfl⟩
def i104(g:G):cj:=⟨131,[.ag (gCC g)],I (dG g),True⟩
def ab7{g:G}(h:aY pg 131 [.ag (gCC g)] [] [] (I<|dG g) []):(i104 g).bS pg:=λ_=>⟨h,by simp[i104,aj,AV.pure],rfl⟩
def i105(g:G):cj:=⟨132,[.ag (gCC g)],B (dB g),True⟩
def ab8{g:G}(h:aY pg 132 [.ag (gCC g)] [] [] (B<|dB g) []):(i105 g).bS pg:=λ_=>⟨h,by simp[i105,aj,AV.pure],rfl⟩
def i100(g:G):cj:=⟨126,[.ag (gCC g)],B (dB g),True⟩
def ab9{g:G}(h:aY pg 126 [.ag (gCC g)] [] [] (B<|dB g) []):(i100 g).bS pg:=λ_=>⟨h,by simp[i100,aj,AV.pure],rfl⟩
def i94(g:G)(o:Int):cj:=⟨121,[.ag (gCC g),I8 o],B (fp o g),True⟩
def gd94{g:G}{o:Int}(h:aY pg 121 [.ag (gCC g),I8 o] [] [] (B<|fp o g) []):(i94 g o).bS pg:=λ_=>⟨h,by simp[i94,aj,AV.pure],rfl⟩
def aca:Code:=bD 0 (aG 125)
section
variable(g:G)
def adl(i0:Nat)(y0:Int):Int:=(min (wrap .i64<|y0+(dG<|ae g.kids i0)) 2147483647)
def jE(kk:Nat):Int:=Nat.rec (motive:=λ_=>Int) 1 (λj a=>adl g j a) kk
abbrev JE(i0:Nat)(y0:Int):Am.Loc:=[(3,I y0),(7,.sl 4 (map gC g.kids)),(8,I (length (map gC g.kids):Int)),(9,I (i0:Int))]
abbrev acb(i0:Nat):Am.Loc:=JE g i0 (jE g i0)
abbrev Mz(i0:Nat):lXE:=[.box 70 (gCC g)]
abbrev TV:Am.Loc:=[(3,I (jE g<|length g.kids))]
abbrev TW:lXE:=[.box 70 (gCC g)]
def JF:KB:=noK 0 (acb g) (Mz g) (.exit 0) (TV g) (TW g) (True)
end
abbrev zAc:=(range 1)
abbrev acd(g:G)(i0:Nat):List bf:=[nxW (false) (acb g<|i0+1) (Mz g<|i0+1) (JE g (i0+1)<|min (wrap .i64<|(jE g i0)+(dG<|ae g.kids i0)) 2147483647) zAc (Mz g<|i0+1)]
abbrev zAA(g:G):=(decide<|(((length g.kids):Nat):Int)<(length (map gC g.kids):Int))
abbrev zCA(g:G)(i0:Nat):=(decide<|(i0:Int)<(length (map gC g.kids):Int))
def TX(g:G)(ls:length g.kids<=9223372036854775807)(hK: ∀u∈G.kids g,aY pg 125 [.ag (gCC u)] [] [] (I<|dG u) []):cx pg 20 0 0 (.loop aca) (JF g):=
 noB (acd g) (λi0=>(.r [.k,bT]<|.yes<|.r [.row (gCC<|ae g.kids i0),bT]<|.r [.int 0,.int (wrap .i64<|(jE g i0)+(dG<|ae g.kids i0)),.val (.int .i64<|min (wrap .i64<|(jE g i0)+(dG<|ae g.kids i0)) 2147483647),bT]<|zU i0)) (range 1) zE (length g.kids)
 (λ_ i0(hx0:i0<(length g.kids))=>have l1:=aL gC (g.kids);have hb:(zCA g i0)=true:=afT oaa;
 bB (an (a1 a0)<|an hb<|an (ac (iP g.kids i0) a0)<|an (ac (minA (P:=Tryz.prog) (ts:=⟨[3,3]⟩) (ty:=3) (fl:=⟨[false,true]⟩) (wrap .i64<|(jE g i0)+(dG<|ae g.kids i0)) 2147483647)<|ac (bQ<|wrap .i64<|(jE g i0)+(dG<|ae g.kids i0))<|cA (gd99<|hK _<|aw hx0) trivial a0)<|an (ac (dwo ((i0+1:Nat):Int)) a0)<|lf (wy (acd g i0) 0) 2<|nxP (JE g<|i0+1) (λ_=>Mz g<|i0+1) rfl<|show jE g (i0+1)=(min (wrap .i64<|(jE g i0)+(dG<|ae g.kids i0)) 2147483647)from rfl)
 oab)
 (λ_=>have l1:=aL gC (g.kids);have hb:(zAA g)=false:=afU oaa;
 bB (an (a1 a0)<|an hb<|lx (.exit 0) (TV g) (range 1) (TW g) 1)
 oab) (hc:=λ_ i0 hx0=>(bn (.cons (gd99<|hK _<|aw hx0) rfl cy.nil) aE))
def r99(g:G):Int:=(jE g<|length g.kids)
def uD:di [0] (aG 125)=[(0,.loop aca)]:=by kernel_rfl
abbrev zBR:GT:=(.r [bT]<|.r [bT]<|.r [bT]<|.no zF)
def adm(g:G)(ls:length g.kids<=9223372036854775807)(hK: ∀u∈G.kids g,aY pg 125 [.ag (gCC u)] [] [] (I<|dG u) []):aY pg 125 [.ag (gCC g)] [] [] (I<|r99 g) []:=
 aV 125 zBR
 (an a0<|an a0<|an a0<|an (kbT (JF g) trivial)<|an (rfl:false=false)<|an a0<|iE<|show r99 g=(jE g<|length g.kids)from rfl) (hk:=(bw (l:=[(0,JF g)]) uD (aK (TX g ls hK) rfl aU) rfl))
def TY:Code:=bD 0 (aG 131)
def aaK(g:G)(i0:Nat)(y0:Int):Int:=(min (wrap .i64<|y0+(dG<|ae g.kids i0)) 2147483647)
def gX(g:G)(kk:Nat):Int:=Nat.rec (motive:=λ_=>Int) 1 (λj a=>aaK g j a) kk
abbrev DC(g:G)(i0:Nat)(y0:Int):Am.Loc:=[(1,.pt 0 0),(3,I y0),(4,I (i0:Int))]
section
variable(g:G)
abbrev TZ(i0:Nat):Am.Loc:=DC g i0 (gX g i0)
abbrev DD(i0:Nat):lXE:=[.box 70 (gCC g)]
abbrev MA:Am.Loc:=[(3,I (gX g<|length g.kids))]
abbrev MB:lXE:=[.box 70 (gCC g)]
def DE:KB:=noK 0 (TZ g) (DD g) (.exit 0) (MA g) (MB g) (True)
abbrev T0(i0:Nat):List bf:=[nxW (false) (TZ g<|i0+1) (DD g<|i0+1) (DC g (i0+1)<|min (wrap .i64<|(gX g i0)+(dG<|ae g.kids i0)) 2147483647) zAc (DD g<|i0+1)]
def Rx(ls:length g.kids<=9223372036854775807)(hK: ∀u∈G.kids g,aY pg 131 [.ag (gCC u)] [] [] (I<|dG u) []):cx pg 22 0 0 (.loop TY) (DE g):=
 noB (T0 g) (λi0=>(.r [.k,bT]<|.yes<|.r [.row (gCC<|ae g.kids i0),.int 0,.int (wrap .i64<|(gX g i0)+(dG<|ae g.kids i0)),.val (.int .i64<|min (wrap .i64<|(gX g i0)+(dG<|ae g.kids i0)) 2147483647),bT]<|zU i0)) (range 1) zE (length g.kids)
 (λ_ i0(hx0:i0<(length g.kids))=>have l1:=aL gC (g.kids);have hb:(zCA g i0)=true:=afT oaa;
 bB (an (a1 a0)<|an hb<|an (ac (minA (P:=Tryz.prog) (ts:=⟨[3,3]⟩) (ty:=3) (fl:=⟨[false,true]⟩) (wrap .i64<|(gX g i0)+(dG<|ae g.kids i0)) 2147483647)<|ac (bQ<|wrap .i64<|(gX g i0)+(dG<|ae g.kids i0))<|cA (ab7<|hK _<|aw hx0) trivial<|ac (iP g.kids i0) a0)<|an (ac (dwo ((i0+1:Nat):Int)) a0)<|lf (wy (T0 g i0) 0) 1<|nxP (DC g<|i0+1) (λ_=>DD g<|i0+1) rfl<|show gX g (i0+1)=(min (wrap .i64<|(gX g i0)+(dG<|ae g.kids i0)) 2147483647)from rfl)
 oab)
 (λ_=>have l1:=aL gC (g.kids);have hb:(zAA g)=false:=afU oaa;
 bB (an (a1 a0)<|an hb<|lx (.exit 0) (MA g) (range 1) (MB g) 1)
 oab) (hc:=λ_ i0 hx0=>(bn (.cons (ab7<|hK _<|aw hx0) rfl cy.nil) aE))
def r104:Int:=(gX g<|length g.kids)
end
def rm:di [0] (aG 131)=[(0,.loop TY)]:=by kernel_rfl
def aaL(g:G)(ls:length g.kids<=9223372036854775807)(hK: ∀u∈G.kids g,aY pg 131 [.ag (gCC u)] [] [] (I<|dG u) []):aY pg 131 [.ag (gCC g)] [] [] (I<|r104 g) []:=
 aV 131 zBR
 (an a0<|an a0<|an a0<|an (kbT (DE g) trivial)<|an (rfl:false=false)<|an a0<|iE<|show r104 g=(gX g<|length g.kids)from rfl) (hk:=(bw (l:=[(0,DE g)]) rm (aK (Rx g ls hK) rfl aU) rfl))
def ace:Code:=bD 0 (aG 121)
abbrev T1(g:G)(o:Int)(i0:Nat):Am.Loc:=[(1,I8 o),(2,.pf (gCC g)),(5,I (i0:Int))]
abbrev T2(g:G)(o:Int)(i0:Nat):lXE:=[]
def B8(g:G)(o:Int)(i0:Nat):Bool:=(fp o<|ae g.kids i0)
def DF(g:G)(o:Int):Bool:=dA (length g.kids) (B8 g o)
abbrev T3(g:G)(o:Int)(i0:Nat):Am.Loc:=[(4,B true)]
abbrev T4(g:G)(o:Int)(i0:Nat):lXE:=[]
abbrev T5(g:G)(o:Int):Am.Loc:=[]
abbrev T6(g:G)(o:Int):lXE:=[]
section
variable(g:G)(o:Int)
def JG:KB:=anK 0 (length g.kids) (B8 g o) (T1 g o) (T2 g o) .ret (T3 g o) (T4 g o) (.exit 0) (T5 g o) (T6 g o) (True)
abbrev T7(i0:Nat):List bf:=[htW (B8 g o i0) .ret (T3 g o i0) zb (T4 g o i0),nxW (B8 g o i0) (T1 g o<|i0+1) (T2 g o<|i0+1) (T1 g o<|i0+1) zb (T2 g o<|i0+1)]
def T8(ls:length g.kids<=9223372036854775807)(hK: ∀u∈G.kids g,aY pg 121 [.ag (gCC u),I8 o] [] [] (B<|fp o u) []):cx pg 24 0 0 (.loop ace) (JG g o):=
 anB (T7 g o) (λi0=>(.r [.k,bT]<|.yes<|.r [.row (gCC<|ae g.kids i0),.int 0,bT]<|.br zB<|zD i0)) (range 0) zE
 (λ_ i0(hx0:i0<(length g.kids))=>have l1:=aL gC (g.kids);have hb:(zCA g i0)=true:=afT oaa;
 bB (an (a1 a0)<|an hb<|an (cA (gd94<|hK _<|aw hx0) trivial<|ac (iP g.kids i0) a0)<|brP (λ(h1:(fp o<|ae g.kids i0)=true)=>(an a0<|lf (wy (T7 g o i0) 0) 0<|show B8 g o i0=true from h1))<|λh1=>(an (ac (dwo ((i0+1:Nat):Int)) a0)<|lf (wy (T7 g o i0) 1) 0 ⟨(show B8 g o i0=false from h1),rfl,rfl⟩))
 oab)
 (λ_=>have l1:=aL gC (g.kids);have hb:(zAA g)=false:=afU oaa;
 bB (an (a1 a0)<|an hb<|lx (.exit 0) (T5 g o) (range 0) (T6 g o) 0)
 oab) (hc:=λ_ i0 hx0=>(bn (.cons (gd94<|hK _<|aw hx0) rfl cy.nil) aE))
def r94:Bool:=((g.op==o)||(DF g o))
end
def uE:di [0] (aG 121)=[(0,.loop ace)]:=by kernel_rfl
abbrev zDB:GT:=(.r [bT]<|.br .nil zF)
def aaM(g:G)(o:Int)(ls:length g.kids<=9223372036854775807)(hK: ∀u∈G.kids g,aY pg 121 [.ag (gCC u),I8 o] [] [] (B<|fp o u) []):aY pg 121 [.ag (gCC g),I8 o] [] [] (B<|r94 g o) []:=
 aV 121 (.r [bT]<|.r [.k,bT]<|.br zF zDB)
 (an a0<|an (a1 a0)<|brP (λ(h0:(g.op==o)=true)=>(an a0<|bE<|show r94 g o=true from(orT h0)))<|λh0=>(an a0<|an (kbT (JG g o) trivial)<|brP (λ(h1:(DF g o)=true)=>(bE<|show r94 g o=true from(orF h0 h1)))<|λh1=>(an a0<|bE<|show r94 g o=false from(orF h0 h1)))) (hk:=(bw (l:=[(0,JG g o)]) uE (aK (T8 g o ls hK) rfl aU) rfl))
def T9:Code:=bD 0 (aG 137)
abbrev zCv(l:List G):=(map gC l)
abbrev JH(l:List G)(i0:Nat):Am.Loc:=[(0,.sl 4 (zCv l)),(3,I (i0:Int))]
abbrev JI(l:List G)(i0:Nat):lXE:=[]
def s8(l:List G)(i0:Nat):Bool:=(!(dB<|ae l i0))
def xF(l:List G):Bool:=dA (length l) (s8 l)
abbrev MC(l:List G)(i0:Nat):Am.Loc:=[(2,B false)]
abbrev MD(l:List G)(i0:Nat):lXE:=[]
abbrev ME(l:List G):Am.Loc:=[]
abbrev MF(l:List G):lXE:=[]
def DG(l:List G):KB:=anK 0 (length l) (s8 l) (JH l) (JI l) .ret (MC l) (MD l) (.exit 0) (ME l) (MF l) (True)
abbrev JJ(l:List G)(i0:Nat):List bf:=[htW (s8 l i0) .ret (MC l i0) zb (MD l i0),nxW (s8 l i0) (JH l<|i0+1) (JI l<|i0+1) (JH l<|i0+1) zb (JI l<|i0+1)]
abbrev zBM(l:List G):=(decide<|(((length l):Nat):Int)<(length (map gC l):Int))
abbrev zCO(i0:Nat)(l:List G):GT:=(.r [.row (gCC<|ae l i0),.int 0,bT]<|.br zB<|zD i0)
abbrev zCR(i0:Nat)(l:List G):=(decide<|(i0:Int)<(length (map gC l):Int))
def Ry(l:List G)(ls:length l<=9223372036854775807)(hK: ∀u∈l,aY pg 132 [.ag (gCC u)] [] [] (B<|dB u) []):cx pg 16 0 0 (.loop T9) (DG l):=
 anB (JJ l) (λi0=>(.r [.k,bT]<|.yes<|zCO i0 l)) (range 0) zE
 (λ_ i0(hx0:i0<(length l))=>have l1:=aL gC (l);have hb:(zCR i0 l)=true:=afT oaa;
 bB (an (a1 a0)<|an hb<|an (cA (ab8<|hK _<|aw hx0) trivial<|ac (iP l i0) a0)<|brP (λ(h1:(!(dB<|ae l i0))=true)=>(an a0<|lf (wy (JJ l i0) 0) 0<|show s8 l i0=true from h1))<|λh1=>(an (ac (dwo ((i0+1:Nat):Int)) a0)<|lf (wy (JJ l i0) 1) 0 ⟨(show s8 l i0=false from h1),rfl,rfl⟩))
 oab)
 (λ_=>have l1:=aL gC (l);have hb:(zBM l)=false:=afU oaa;
 bB (an (a1 a0)<|an hb<|lx (.exit 0) (ME l) (range 0) (MF l) 0)
 oab) (hc:=λ_ i0 hx0=>(bn (.cons (ab8<|hK _<|aw hx0) rfl cy.nil) aE))
def Ua(l:List G):Bool:=(!(xF l))
def rn:di [0] (aG 137)=[(0,.loop T9)]:=by kernel_rfl
abbrev zf:GT:=(.r [bT] zDB)
def DH(l:List G)(ls:length l<=9223372036854775807)(hK: ∀u∈l,aY pg 132 [.ag (gCC u)] [] [] (B<|dB u) []):aY pg 137 [.sl 4 (zCv l)] [] [] (B<|Ua l) []:=
 aV 137 zf
 (an a0<|an a0<|an (kbT (DG l) trivial)<|brP (λ(h0:(xF l)=true)=>(bE<|show Ua l=false from(cI h0)))<|λh0=>(an a0<|bE<|show Ua l=true from(au h0))) (hk:=(bw (l:=[(0,DG l)]) rn (aK (Ry l ls hK) rfl aU) rfl))
theorem xG(g:G): ∀(l:List G)(a:Int),jc (l++ [g]) a=min (jc l a+dG g) 2147483647
 |[],a=>by simp[jc]
 |x::l,a=>by simp only[agR,jc,xG g l]
theorem s9: ∀(l:List G)(a:Int),(∀u∈l,1<=dG u)->1<=a->a<=2147483647->1<=jc l a/\jc l a<=2147483647
 |[],a,_,h0,h1=>by simp only[jc];exact⟨h0,h1⟩
 |x::l,a,h,h0,h1=>by have:=h x oaj;simp only[jc];exact s9 l _ (λu hu=>h u<|by simp[hu]) oaa oaa
def Gm: ∀g:G,1<=dG g/\dG g<=2147483647:=G.xB (by grind[dG,s9])
def B9(l:List G)(ac:Nat->Int)(h0:ac 0=1)(h1: ∀i,ac (i+1)=min (wrap .i64<|ac i+dG (ae l i)) 2147483647):ac l.length=jc l 1:=by
 have key: ∀k,k<=l.length->ac k=jc (l.take k) 1:=by
  intro k;induction k with
  |zero=>intro _;rw[h0];simp[jc]
  |succ k ih=>intro hk;have hb:=s9 (l.take k) 1 (λu _=>(Gm u).1) oaa oaa;have hg:=Gm (ae l k);rw[h1,ih oaa,B7 oaa,xG,wrap_i64 oaa oaa]
 rw[key l.length (afP _),agj]
theorem JK: ∀g:G,dV g->aY pg 125 [.ag (gCC g)] [] [] (I<|dG g) []:=G.xB λo n s l ih hf=>by
 have h:=adm (.mk o n s l) hf.len λu hu=>ih u hu (hf.kids u hu);have e:r99 (.mk o n s l)=dG (.mk o n s l):=by simp only[dG];exact B9 l (jE<|.mk o n s l) rfl λi=>rfl
 rw[<-e];exact h
theorem Gn: ∀g:G,dV g->aY pg 131 [.ag (gCC g)] [] [] (I<|dG g) []:=G.xB λo n s l ih hf=>by
 have h:=aaL (.mk o n s l) hf.len λu hu=>ih u hu (hf.kids u hu);have e:r104 (.mk o n s l)=dG (.mk o n s l):=by simp only[dG];exact B9 l (gX<|.mk o n s l) rfl λi=>rfl
 rw[<-e];exact h
def Gp(o:Int): ∀g:G,dV g->aY pg 121 [.ag (gCC g),I8 o] [] [] (B<|fp o g) []:=G.xB λo' n s l ih hf=>by
 have h:=aaM (.mk o' n s l) o hf.len λu hu=>ih u hu (hf.kids u hu);have e:r94 (.mk o' n s l) o=fp o (.mk o' n s l):=by have:DF (.mk o' n s l) o=l.any (fp o):=j0 (fp o) l;simp only[r94,fp,xA,this];rfl
 rw[<-e];exact h
theorem all_eq(l:List G):Ua l=kB l:=by have:xF l=l.any λg=> !dB g:=j0 (λg=> !dB g) l;grind[Gl,Ua]
def i115(l:List G):cj:=⟨137,[.sl 4 (l.map gC)],B (kB l),True⟩
def MG{l:List G}(h:aY pg 137 [.sl 4 (l.map gC)] [] [] (B<|kB l) []):(i115 l).bS pg:=λ_=>⟨h,by simp[i115,aj,AV.pure],rfl⟩
def p9(g:G):Bool:=(!(!(cT (Array.toList<|ByteArray.data g.name) []))&&(bif g.n !=0 then(!(g.op !=8)&&(((length (map gC g.kids):Int)==0)&&((decide<|g.n<1000000000000000000)&&decide (g.n>(-1000000000000000000)))))else(bif g.op==0 then(length (map gC g.kids):Int)==0 else(bif g.op==1 then(length (map gC g.kids):Int)==0 else(bif g.op==8 then(((length (map gC g.kids):Int)==0)&&((decide<|g.n<1000000000000000000)&&decide (g.n>(-1000000000000000000))))else(bif g.op==2 then(((length (map gC g.kids):Int)==1)&&kB g.kids)else(bif g.op==3 then((decide<|(length (map gC g.kids):Int)>=2)&&kB g.kids)else(bif g.op==4 then((decide<|(length (map gC g.kids):Int)>=2)&&kB g.kids)else(bif g.op==5 then(((length (map gC g.kids):Int)==2)&&((fo<|ae g.kids 0)&&fo (ae g.kids 1)))else(bif g.op==6 then(((length (map gC g.kids):Int)==2)&&((fo<|ae g.kids 0)&&fo (ae g.kids 1)))else((g.op==7)&&(((length (map gC g.kids):Int)==2)&&((fo<|ae g.kids 0)&&fo (ae g.kids 1))))))))))))))
abbrev zBD:List Gi:=(.k::uFF 10 [bT])
abbrev zZ(g:G):GT:=(.a (.a (.r [.k,bT,bT,bT,.row (gCC<|ae g.kids 0),bT,bT,.int 1,bT,bT,bT,.row (gCC<|ae g.kids 1),bT,bT,.int 2,bT] .nil)<|.r (.k::bT::bT::bT::.row (gCC<|ae g.kids 0)::bT::bT::.int 1::uFF 5 [bT]) .nil)<|.r zBD .nil)
abbrev zn:List Gi:=(.k::uFF 8 [bT])
abbrev zAH(g:G):=((length (map gC g.kids):Int)==0)
abbrev zAl(g:G):=((length (map gC g.kids):Int)==2)
abbrev zAz:GT:=(.r [.k,bT] .nil)
abbrev zBF(g:G):=(decide<|(length (map gC g.kids):Int)>=2)
abbrev zCn:List Gi:=(.k::bT::bT::bT::.k::uTT 4 [.k,bT,bT])
abbrev zCx:List Gi:=[.k,bT,bT,bT,.k,bT,bF,bF,bF,bT,bT]
def aaN(g:G)(ls:length g.kids<=9223372036854775807)(hf: ∀k∈G.kids g,dV k)(hK: ∀u∈G.kids g,aY pg 132 [.ag (gCC u)] [] [] (B<|dB u) []):aY pg 132 [.ag (gCC g)] [] [] (B<|p9 g) []:=
 aV 132 (.r [bT]<|.a (.r zn zF)<|.a (.r zCn<|.br zF<|.r [bT]<|.r [.k,bT]<|.no<|.r [.k,bT]<|.no<|.r [.k,bT]<|.yes zV)<|.r zCx<|.r [bT]<|.r [.k,bT]<|.br zAz<|.r [.k,bT]<|.br zAz<|.r [.k,bT]<|.br zV<|.r [.k,bT]<|.br zz<|.r [.k,bT]<|.br zz<|.r [.k,bT]<|.br zz<|.r [.k,bT]<|.br (zZ g)<|.r [.k,bT]<|.br (zZ g)<|.r [.k,bT]<|.br (zZ g) zF)
 (an a0<|aO (λ(h0:(!(cT (Array.toList<|ByteArray.data g.name) []))=true)=>(an (aN 7<|ac (n2 h0)<|a1 a0)<|an a0<|bE<|show p9 g=false from(bg<|cI h0)))<|λh0=>have q0:=(aD (au h0) rfl:p9 g=_);
 (aO (λ(h1:(g.n !=0)=true)=>have q1:=q0.trans (cdT h1 rfl);
 (an (aN 4<|ac h1<|aN 4<|ac (au h0)<|a1 a0)<|brP (λ(h2:(g.op !=8)=true)=>(an a0<|bE<|q1.trans<|bg<|cI h2))<|λh2=>have q3:=q1.trans (aD (au h2) rfl);
 (an a0<|an (a1 a0)<|an (show(g.op==0)=false by rw[fY h2];rfl)<|an (a1 a0)<|an (show(g.op==1)=false by rw[fY h2];rfl)<|an (a1 a0)<|an (show(g.op==8)=true by rw[fY h2];rfl)<|aO (λ(h3:(zAH g)=true)=>(aO (λ(h4:(zBk g)=true)=>(an (aN 3<|ac h4<|aN 3<|ac h3<|a1 a0)<|bE<|show p9 g=(zBa g)from(aD (au h0)<|cdT h1<|aD (au h2)<|aD h3<|aD h4 rfl)))<|λh4=>(an (aN 2<|ac (au h4)<|aN 3<|ac h3<|a1 a0)<|bE<|q3.trans<|aD h3<|bg h4)))<|λh3=>(an (aN 5<|ac (au h3)<|a1 a0)<|bE<|q3.trans<|bg h3))))<|λh1=>have q2:=q0.trans (cdF h1 rfl);have g1:=fY h1;
 (an (aN 3<|ac (au h1)<|aN 4<|ac (au h0)<|a1 a0)<|an a0<|an (a1 a0)<|brP (λ(h2:(g.op==0)=true)=>(an (a1 a0)<|bE<|show p9 g=(zAH g)from(aD (au h0)<|cdF h1<|cdT h2 rfl)))<|λh2=>have q4:=q2.trans (cdF h2 rfl);have g2:=afX h2;
 (an (a1 a0)<|brP (λ(h3:(g.op==1)=true)=>(an (a1 a0)<|bE<|show p9 g=(zAH g)from(aD (au h0)<|cdF h1<|cdF h2<|cdT h3 rfl)))<|λh3=>have q5:=q4.trans (cdF h3 rfl);have g3:=afX h3;
 (an (a1 a0)<|brP (λ(h4:(g.op==8)=true)=>have q6:=q5.trans (cdT h4 rfl);
 (aO (λ(h5:(zAH g)=true)=>(aO (λ(h6:(zBk g)=true)=>(an (aN 3<|ac h6<|aN 3<|ac h5<|a1 a0)<|bE<|show p9 g=(zBa g)from(aD (au h0)<|cdF h1<|cdF h2<|cdF h3<|cdT h4<|aD h5<|aD h6 rfl)))<|λh6=>(an (aN 2<|ac (au h6)<|aN 3<|ac h5<|a1 a0)<|bE<|q6.trans<|aD h5<|bg h6)))<|λh5=>(an (aN 5<|ac (au h5)<|a1 a0)<|bE<|q6.trans<|bg h5)))<|λh4=>have q7:=q5.trans (cdF h4 rfl);have g4:=afX h4;
 (an (a1 a0)<|brP (λ(h5:(g.op==2)=true)=>(aO (λ(h6:((length (map gC g.kids):Int)==1)=true)=>(an (cA (MG oaF) trivial<|aN 2<|ac h6<|a1 a0)<|bE<|show p9 g=(kB g.kids)from(aD (au h0)<|cdF h1<|cdF h2<|cdF h3<|cdF h4<|cdT h5<|aD h6 rfl)))<|λh6=>(an (aN 2<|ac (au h6)<|a1 a0)<|bE<|q7.trans<|cdT h5<|bg h6)))<|λh5=>have q8:=q7.trans (cdF h5 rfl);have g5:=afX h5;
 (an (a1 a0)<|brP (λ(h6:(g.op==3)=true)=>(aO (λ(h7:(zBF g)=true)=>(an (cA (MG oaF) trivial<|aN 2<|ac h7<|a1 a0)<|bE<|show p9 g=(kB g.kids)from(aD (au h0)<|cdF h1<|cdF h2<|cdF h3<|cdF h4<|cdF h5<|cdT h6<|aD h7 rfl)))<|λh7=>(an (aN 2<|ac (au h7)<|a1 a0)<|bE<|q8.trans<|cdT h6<|bg h7)))<|λh6=>have q9:=q8.trans (cdF h6 rfl);have g6:=afX h6;
 (an (a1 a0)<|brP (λ(h7:(g.op==4)=true)=>(aO (λ(h8:(zBF g)=true)=>(an (cA (MG oaF) trivial<|aN 2<|ac h8<|a1 a0)<|bE<|show p9 g=(kB g.kids)from(aD (au h0)<|cdF h1<|cdF h2<|cdF h3<|cdF h4<|cdF h5<|cdF h6<|cdT h7<|aD h8 rfl)))<|λh8=>(an (aN 2<|ac (au h8)<|a1 a0)<|bE<|q9.trans<|cdT h7<|bg h8)))<|λh7=>have q10:=q9.trans (cdF h7 rfl);have g7:=afX h7;
 (an (a1 a0)<|brP (λ(h8:(g.op==5)=true)=>have q11:=q10.trans (cdT h8 rfl);have g8:=eq_of_beq h8;
 (aO (λ(h9:(zAl g)=true)=>have l1:=aL gC (g.kids);have g9:=eq_of_beq h9;
 (aO (λ(h10:(fo<|ae g.kids 0)=true)=>(an (cA (xE<|ae g.kids 1) (hf _<|aw oaa)<|aN 2<|ac (iP g.kids 1)<|aN 2<|ac h10<|cA (xE<|ae g.kids 0) (hf _<|aw oaa)<|aN 2<|ac (iP g.kids 0)<|aN 2<|ac h9<|a1 a0)<|bE<|show p9 g=(fo<|ae g.kids 1)from(aD (au h0)<|cdF h1<|cdF h2<|cdF h3<|cdF h4<|cdF h5<|cdF h6<|cdF h7<|cdT h8<|aD h9<|aD h10 rfl)))<|λh10=>(an (aN 4<|ac (au h10)<|cA (xE<|ae g.kids 0) (hf _<|aw oaa)<|aN 2<|ac (iP g.kids 0)<|aN 2<|ac h9<|a1 a0)<|bE<|q11.trans<|aD h9<|bg h10)))<|λh9=>(an (aN 9<|ac (au h9)<|a1 a0)<|bE<|q11.trans<|bg h9)))<|λh8=>have q12:=q10.trans (cdF h8 rfl);have g8:=afX h8;
 (an (a1 a0)<|brP (λ(h9:(g.op==6)=true)=>have q13:=q12.trans (cdT h9 rfl);have g9:=eq_of_beq h9;
 (aO (λ(h10:(zAl g)=true)=>have l1:=aL gC (g.kids);have g10:=eq_of_beq h10;
 (aO (λ(h11:(fo<|ae g.kids 0)=true)=>(an (cA (xE<|ae g.kids 1) (hf _<|aw oaa)<|aN 2<|ac (iP g.kids 1)<|aN 2<|ac h11<|cA (xE<|ae g.kids 0) (hf _<|aw oaa)<|aN 2<|ac (iP g.kids 0)<|aN 2<|ac h10<|a1 a0)<|bE<|show p9 g=(fo<|ae g.kids 1)from(aD (au h0)<|cdF h1<|cdF h2<|cdF h3<|cdF h4<|cdF h5<|cdF h6<|cdF h7<|cdF h8<|cdT h9<|aD h10<|aD h11 rfl)))<|λh11=>(an (aN 4<|ac (au h11)<|cA (xE<|ae g.kids 0) (hf _<|aw oaa)<|aN 2<|ac (iP g.kids 0)<|aN 2<|ac h10<|a1 a0)<|bE<|q13.trans<|aD h10<|bg h11)))<|λh10=>(an (aN 9<|ac (au h10)<|a1 a0)<|bE<|q13.trans<|bg h10)))<|λh9=>have q14:=q12.trans (cdF h9 rfl);have g9:=afX h9;
 (an (a1 a0)<|brP (λ(h10:(g.op==7)=true)=>have q15:=q14.trans (aD h10 rfl);have g10:=eq_of_beq h10;
 (aO (λ(h11:(zAl g)=true)=>have l1:=aL gC (g.kids);have g11:=eq_of_beq h11;
 (aO (λ(h12:(fo<|ae g.kids 0)=true)=>(an (cA (xE<|ae g.kids 1) (hf _<|aw oaa)<|aN 2<|ac (iP g.kids 1)<|aN 2<|ac h12<|cA (xE<|ae g.kids 0) (hf _<|aw oaa)<|aN 2<|ac (iP g.kids 0)<|aN 2<|ac h11<|a1 a0)<|bE<|show p9 g=(fo<|ae g.kids 1)from(aD (au h0)<|cdF h1<|cdF h2<|cdF h3<|cdF h4<|cdF h5<|cdF h6<|cdF h7<|cdF h8<|cdF h9<|aD h10<|aD h11<|aD h12 rfl)))<|λh12=>(an (aN 4<|ac (au h12)<|cA (xE<|ae g.kids 0) (hf _<|aw oaa)<|aN 2<|ac (iP g.kids 0)<|aN 2<|ac h11<|a1 a0)<|bE<|q15.trans<|aD h11<|bg h12)))<|λh11=>(an (aN 9<|ac (au h11)<|a1 a0)<|bE<|q15.trans<|bg h11)))<|λh10=>(an a0<|bE<|q14.trans<|bg h10)))))))))))) (hc:=(bn (.cons (MG oaF) rfl<|.cons (xE<|ae g.kids 0) rfl<|.cons (xE<|ae g.kids 1) rfl cy.nil) aE))
def r111(g:G):Bool:= !(dB g)
abbrev zCS:GT:=(.r [bT]<|.r [.int 0,bT] .nil)
def Ub(g:G)(hK:aY pg 126 [.ag (gCC g)] [] [] (B<|dB g) []):aY pg 133 [.ag (gCC g)] [] [] (B<|r111 g) []:=
 aV 133 zCS
 (an a0<|an (cA (ab9 hK) trivial a0)<|bE<|show r111 g=(!(dB g))from rfl) (hc:=(bn (.cons (ab9 hK) rfl cy.nil) aE))
def acf(l:List G)(j:Nat):cj:=⟨133,[.ag (gCC<|ae l j)],B (!dB (ae l j)),j<l.length⟩
def MH(l:List G)(j:Nat)(hK: ∀u∈l,aY pg 126 [.ag (gCC u)] [] [] (B<|dB u) []):(acf l j).bS pg:=λhp=>⟨Ub _ (hK _<|aw hp),by simp[acf,aj,AV.pure],rfl⟩
def Uc:Code:=bD 0 (aG 136)
abbrev JL(l:List G)(i0:Nat):Am.Loc:=[(0,.sl 4 (zCv l)),(1,.fn (.func 133) [] []),(7,I (length (zCv l):Int)),(8,I (i0:Int))]
abbrev JM(l:List G)(i0:Nat):lXE:=[]
def qa(l:List G)(i0:Nat):Bool:=(!(dB<|ae l i0))
def xH(l:List G):Bool:=dA (length l) (qa l)
abbrev MI(l:List G)(i0:Nat):Am.Loc:=[(4,I (i0:Int))]
abbrev MJ(l:List G)(i0:Nat):lXE:=[]
abbrev MK(l:List G):Am.Loc:=[]
abbrev ML(l:List G):lXE:=[]
section
variable(l:List G)
def DJ:KB:=anK 0 (length l) (qa l) (JL l) (JM l) .ret (MI l) (MJ l) (.exit 0) (MK l) (ML l) (True)
abbrev JN(i0:Nat):List bf:=[htW (qa l i0) .ret (MI l i0) zb (MJ l i0),nxW (qa l i0) (JL l<|i0+1) (JM l<|i0+1) (JL l<|i0+1) zb (JM l<|i0+1)]
theorem Rz(ls:length l<=9223372036854775807)(hK: ∀u∈l,aY pg 126 [.ag (gCC u)] [] [] (B<|dB u) []):cx pg 19 0 0 (.loop Uc) (DJ l):=
 anB (JN l) (λi0=>(.r [.k,bT]<|.yes<|.r [bT]<|zCO i0 l)) (range 0) zE
 (λ_ i0(hx0:i0<(length l))=>have l1:=aL gC (l);have hb:(zCR i0 l)=true:=afT oaa;
 bB (an (a1 a0)<|an hb<|an a0<|an (cA (MH l i0 hK) (show i0<length l by omega)<|ac (iP l i0) a0)<|brP (λ(h1:(!(dB<|ae l i0))=true)=>(an a0<|lf (wy (JN l i0) 0) 0<|show qa l i0=true from h1))<|λh1=>(an (ac (dwo ((i0+1:Nat):Int)) a0)<|lf (wy (JN l i0) 1) 0 ⟨(show qa l i0=false from h1),rfl,rfl⟩))
 oab)
 (λ_=>have l1:=aL gC (l);have hb:(zBM l)=false:=afU oaa;
 bB (an (a1 a0)<|an hb<|lx (.exit 0) (MK l) (range 0) (ML l) 0)
 oab) (hc:=λ_ i0 hx0=>(bn (.cons (MH l i0 hK) rfl cy.nil) aE))
def Gq:Int:=(bif xH l then(((lB (length l)<|qa l):Nat):Int)else(-1))
end
def rp:di [0] (aG 136)=[(0,.loop Uc)]:=by kernel_rfl
def Ud(l:List G)(ls:length l<=9223372036854775807)(hK: ∀u∈l,aY pg 126 [.ag (gCC u)] [] [] (B<|dB u) []):aY pg 136 [.sl 4 (zCv l),.fn (.func 133) [] []] [] [] (I<|Gq l) []:=
 aV 136 zf
 (an a0<|an a0<|an (kbT (DJ l) trivial)<|brP (λ(h0:(xH l)=true)=>(iE<|show Gq l=_ from(cdT h0 rfl)))<|λh0=>(an a0<|iE<|show Gq l=_ from(cdF h0 rfl))) (hk:=(bw (l:=[(0,DJ l)]) rp (aK (Rz l ls hK) rfl aU) rfl))
def i114(l:List G):cj:=⟨136,[.sl 4 (l.map gC),.fn (.func 133) [] []],I (Gq l),True⟩
def acg{l:List G}(h:aY pg 136 [.sl 4 (l.map gC),.fn (.func 133) [] []] [] [] (I<|Gq l) []):(i114 l).bS pg:=λ_=>⟨h,by simp[i114,aj,AV.pure],rfl⟩
def r101(l:List G):Bool:=decide ((Gq l)>=0)
abbrev zBW:GT:=(.r [bT]<|.r [.int 0,.k,bT] .nil)
def Gr(l:List G)(ls:length l<=9223372036854775807)(hK: ∀u∈l,aY pg 126 [.ag (gCC u)] [] [] (B<|dB u) []):aY pg 127 [.sl 4 (zCv l),.fn (.func 133) [] []] [] [] (B<|r101 l) []:=
 aV 127 zBW
 (an a0<|an (a1<|cA (acg<|Ud l ls hK) trivial a0)<|bE<|show r101 l=(decide<|(Gq l)>=0)from rfl) (hc:=(bn (.cons (acg<|Ud l ls hK) rfl cy.nil) aE))
theorem aaO(l:List G):r101 l= !(kB l):=by have h2:xH l=l.any λg=> !dB g:=j0 (λg=> !dB g) l;grind[Gl,r101,Gq]
def i101(l:List G):cj:=⟨127,[.sl 4 (l.map gC),.fn (.func 133) [] []],B (!(kB l)),True⟩
def Ue{l:List G}(ls:l.length<=9223372036854775807)(hK: ∀u∈l,aY pg 126 [.ag (gCC u)] [] [] (B<|dB u) []):(i101 l).bS pg:=λ_=>⟨by have:=Gr l ls hK;rw[aaO]at this;exact this,by simp[i101,aj,AV.pure],rfl⟩
def adn(op:Int)(h: ¬(5<=op/\op<=7))(h2:op<=127):aY pg 134 [I8 op] [] [] (.v .nilFunc) []:=by
 have go: ∀(gd:List Gi){ok:lXB},mZ Tryz.prog Tryz.f134.results.toList 0 (runK Tryz.prog 15 base cU 3000 (kbL []) (aG 134) (jC 0 [I8 op] .e) .e 0 ⟨0,gd,[]⟩)=some (.v .nilFunc,[],ok)->cF ok=true->aY pg 134 [I8 op] [] [] (.v .nilFunc) []:=λgd ok k hok=>Dr (fn:=Tryz.f134) (pu:=cU) (lf:=3000) (l:=[]) aE mixed Tryz.func134 oab (show Tryz.f134.body=some (aG 134) by kernel_rfl) (nbl rfl) (bq _) k hok rfl;by_cases h0:op<0
 ·exact go [bT,bF,bF,bF,bT,bT] oab (a1<|a1<|a1<|a1<|ac (afT h0) a0)
 ·by_cases h8:8<=op
  ·have hw:wrap .i64 op=op:=wrap_i64 oaa oaa;exact go (bF::uTT 6 []) oab (a1<|ac (show(decide<|wrap .i64 op>=8)=true by rw[hw];exact afT h8)<|a1<|a1<|a1<|ac (au<|afU h0) a0)
  ·have:op=0\/op=1\/op=2\/op=3\/op=4:=by omega
   rcases this with rfl|rfl|rfl|rfl|rfl
   ·exact go [] oab a0
   ·exact go [] oab a0
   ·exact go [] oab a0
   ·exact go [] oab a0
   ·exact go [] oab a0
def Uf:aY pg 134 [I8 5] [] [] (.fn (.func 139) [] []) []:=Dr (fn:=Tryz.f134) (pu:=cU) (lf:=3000) (l:=[]) (gd:=[]) aE mixed Tryz.func134 oab (show Tryz.f134.body=some (aG 134) by kernel_rfl) (nbl rfl) (bq _) (show mZ Tryz.prog Tryz.f134.results.toList 0 (runK Tryz.prog 15 base cU 3000 (kbL []) (aG 134) (jC 0 [I8 5] .e) .e 0 ⟨0,[],[]⟩)=some (.fn (.func 139) [] [],[],[]) by kernel_rfl) rfl rfl
def ado(op:Int):cj:=⟨134,[I8 op],.fn (.func 139) [] [],op=5⟩
def DK(op:Int):(ado op).bS pg:=λhp=>⟨by have:op=5:=hp;subst this;exact Uf,rfl,rfl⟩
def Ug:aY pg 134 [I8 6] [] [] (.fn (.func 140) [] []) []:=Dr (fn:=Tryz.f134) (pu:=cU) (lf:=3000) (l:=[]) (gd:=[]) aE mixed Tryz.func134 oab (show Tryz.f134.body=some (aG 134) by kernel_rfl) (nbl rfl) (bq _) (show mZ Tryz.prog Tryz.f134.results.toList 0 (runK Tryz.prog 15 base cU 3000 (kbL []) (aG 134) (jC 0 [I8 6] .e) .e 0 ⟨0,[],[]⟩)=some (.fn (.func 140) [] [],[],[]) by kernel_rfl) rfl rfl
def adp(op:Int):cj:=⟨134,[I8 op],.fn (.func 140) [] [],op=6⟩
def DL(op:Int):(adp op).bS pg:=λhp=>⟨by have:op=6:=hp;subst this;exact Ug,rfl,rfl⟩
def Uh:aY pg 134 [I8 7] [] [] (.fn (.func 141) [] []) []:=Dr (fn:=Tryz.f134) (pu:=cU) (lf:=3000) (l:=[]) (gd:=[]) aE mixed Tryz.func134 oab (show Tryz.f134.body=some (aG 134) by kernel_rfl) (nbl rfl) (bq _) (show mZ Tryz.prog Tryz.f134.results.toList 0 (runK Tryz.prog 15 base cU 3000 (kbL []) (aG 134) (jC 0 [I8 7] .e) .e 0 ⟨0,[],[]⟩)=some (.fn (.func 141) [] [],[],[]) by kernel_rfl) rfl rfl
section
variable(op:Int)
def adq:cj:=⟨134,[I8 op],.fn (.func 141) [] [],op=7⟩
theorem DM:(adq op).bS pg:=λhp=>⟨by have:op=7:=hp;subst this;exact Uh,rfl,rfl⟩
def adr:cj:=⟨134,[I8 op],.v .nilFunc,¬(5<=op/\op<=7)/\op<=127⟩
def Ui:(adr op).bS pg:=λhp=>⟨adn op hp.1 hp.2,rfl,rfl⟩
end
def rq(g:G):Bool:=(!(!(cT (Array.toList<|ByteArray.data g.name) []))&&(bif g.op !=8 then(!(g.n !=0)&&(bif g.op==0 then(length (map gC g.kids):Int)==0 else(bif g.op==1 then(length (map gC g.kids):Int)==0 else(bif g.op==2 then(((length (map gC g.kids):Int)==1)&& !(!(dB<|ae g.kids 0)))else(bif g.op==3 then((decide<|(length (map gC g.kids):Int)>=2)&& !(!(kB g.kids)))else(bif g.op==4 then((decide<|(length (map gC g.kids):Int)>=2)&& !(!(kB g.kids)))else(bif g.op==5 then(((length (map gC g.kids):Int)==2)&&((fo<|ae g.kids 0)&&fo (ae g.kids 1)))else(bif g.op==6 then(((length (map gC g.kids):Int)==2)&&((fo<|ae g.kids 0)&&fo (ae g.kids 1)))else((g.op==7)&&(((length (map gC g.kids):Int)==2)&&((fo<|ae g.kids 0)&&fo (ae g.kids 1))))))))))))else(((length (map gC g.kids):Int)==0)&&((decide<|g.n<1000000000000000000)&&decide (g.n>(-1000000000000000000))))))
abbrev zBn:GT:=(.a (.r (.k::uTT 4 [.int 1,bT,bT]) .nil)<|.r (.k::uFF 5 [bT]) .nil)
def aaP(g:G)(ls:length g.kids<=9223372036854775807)(hf: ∀k∈G.kids g,dV k)(ho:G.op g<=127)(hK: ∀u∈G.kids g,aY pg 126 [.ag (gCC u)] [] [] (B<|dB u) []):aY pg 126 [.ag (gCC g)] [] [] (B<|rq g) []:=
 aV 126 (.r [bT]<|.a (.r zn zF)<|.a (.r zCn<|.br zF<|.r [bT]<|.r [bT]<|.a (.r zAX zAz)<|.r zAD<|.br zAz<|.r [.k,bT]<|.no<|.r [.k,bT]<|.br (.a (.r (.k::uTT 4 [.row (gCC<|ae g.kids 0),bT,bT,.int 0,bT,bT]) .nil)<|.r (.k::uFF 7 [bT]) .nil)<|.a (.r zAX zBn)<|.r zAD<|.br zBn<|.a (.a (.a (.r (.int 2::.k::uTT 4 [.k,bT,bT,bT,.row (gCC<|ae g.kids 0),bT,bT,.int 3,bT,bT,bT,.row (gCC<|ae g.kids 1),bT,bT,.int 4,bT]) .nil)<|.r (.int 2::.k::uTT 4 (.k::bT::bT::bT::.row (gCC<|ae g.kids 0)::bT::bT::.int 3::uFF 5 [bT])) .nil)<|.r (.int 2::.k::uTT 4 (.k::uFF 10 [bT])) .nil)<|.a (.a (.a (.r (.int 5::.k::uTT 4 [.k,bT,bT,bT,.row (gCC<|ae g.kids 0),bT,bT,.int 3,bT,bT,bT,.row (gCC<|ae g.kids 1),bT,bT,.int 4,bT]) .nil)<|.r (.int 5::.k::uTT 4 (.k::bT::bT::bT::.row (gCC<|ae g.kids 0)::bT::bT::.int 3::uFF 5 [bT])) .nil)<|.r (.int 5::.k::uTT 4 (.k::uFF 10 [bT])) .nil)<|.a (.a (.a (.r (.int 6::.k::uTT 4 [.k,bT,bT,bT,.row (gCC<|ae g.kids 0),bT,bT,.int 3,bT,bT,bT,.row (gCC<|ae g.kids 1),bT,bT,.int 4,bT]) .nil)<|.r (.int 6::.k::uTT 4 (.k::bT::bT::bT::.row (gCC<|ae g.kids 0)::bT::bT::.int 3::uFF 5 [bT])) .nil)<|.r (.int 6::.k::uTT 4 (.k::uFF 10 [bT])) .nil)<|.r (.int 7::.k::uFF 14 [bT]) .nil)<|.r zCx<|.r [bT]<|.r [bT]<|.r zAD<|.no<|.r [.k,bT]<|.yes zV)
 (an a0<|aO (λ(h0:(!(cT (Array.toList<|ByteArray.data g.name) []))=true)=>(an (aN 7<|ac (n2 h0)<|a1 a0)<|an a0<|bE<|show rq g=false from(bg<|cI h0)))<|λh0=>have q0:=(aD (au h0) rfl:rq g=_);
 (aO (λ(h1:(g.op !=8)=true)=>have q1:=q0.trans (cdT h1 rfl);have g1:=F4 h1;
 (an (aN 4<|ac h1<|aN 4<|ac (au h0)<|a1 a0)<|brP (λ(h2:(g.n !=0)=true)=>(an a0<|bE<|q1.trans<|bg<|cI h2))<|λh2=>have q3:=q1.trans (aD (au h2) rfl);have g2:=fY h2;
 (an a0<|an a0<|aO (λ(h3:(g.op==0)=true)=>(an (aN 2<|ac (n2 h3)<|a1 a0)<|an (a1 a0)<|bE<|show rq g=(zAH g)from(aD (au h0)<|cdT h1<|aD (au h2)<|cdT h3 rfl)))<|λh3=>have q4:=q3.trans (cdF h3 rfl);have g3:=afX h3;
 (an (aN 3<|ac (au h3)<|a1 a0)<|brP (λ(h4:(g.op==1)=true)=>(an (a1 a0)<|bE<|show rq g=(zAH g)from(aD (au h0)<|cdT h1<|aD (au h2)<|cdF h3<|cdT h4 rfl)))<|λh4=>have q5:=q4.trans (cdF h4 rfl);have g4:=afX h4;
 (an (a1 a0)<|an (show(g.op==8)=false by simpa using h1)<|an (a1 a0)<|brP (λ(h5:(g.op==2)=true)=>have g5:=eq_of_beq h5;
 (aO (λ(h6:((length (map gC g.kids):Int)==1)=true)=>have l1:=aL gC (g.kids);have g6:=eq_of_beq h6;
 (an (a1<|cA (MH g.kids 0 hK) (show 0<length g.kids by omega)<|aN 2<|ac (iP g.kids 0)<|aN 3<|ac h6<|a1 a0)<|bE<|show rq g=(!(!(dB<|ae g.kids 0)))from(aD (au h0)<|cdT h1<|aD (au h2)<|cdF h3<|cdF h4<|cdT h5<|aD h6 rfl)))<|λh6=>(an (aN 6<|ac (au h6)<|a1 a0)<|bE<|q5.trans<|cdT h5<|bg h6)))<|λh5=>have q6:=q5.trans (cdF h5 rfl);have g5:=afX h5;
 (aO (λ(h6:(g.op==3)=true)=>(an (aN 2<|ac (n2 h6)<|a1 a0)<|aO (λ(h7:(zBF g)=true)=>(an (a1<|cA (Ue ls hK) trivial<|aN 3<|ac h7<|a1 a0)<|bE<|show rq g=(!(!(kB g.kids)))from(aD (au h0)<|cdT h1<|aD (au h2)<|cdF h3<|cdF h4<|cdF h5<|cdT h6<|aD h7 rfl)))<|λh7=>(an (aN 4<|ac (au h7)<|a1 a0)<|bE<|q6.trans<|cdT h6<|bg h7)))<|λh6=>have q7:=q6.trans (cdF h6 rfl);have g6:=afX h6;
 (an (aN 3<|ac (au h6)<|a1 a0)<|brP (λ(h7:(g.op==4)=true)=>(aO (λ(h8:(zBF g)=true)=>(an (a1<|cA (Ue ls hK) trivial<|aN 3<|ac h8<|a1 a0)<|bE<|show rq g=(!(!(kB g.kids)))from(aD (au h0)<|cdT h1<|aD (au h2)<|cdF h3<|cdF h4<|cdF h5<|cdF h6<|cdT h7<|aD h8 rfl)))<|λh8=>(an (aN 4<|ac (au h8)<|a1 a0)<|bE<|q7.trans<|cdT h7<|bg h8)))<|λh7=>have q8:=q7.trans (cdF h7 rfl);have g7:=afX h7;
 (aO (λ(h8:(g.op==5)=true)=>have q9:=q8.trans (cdT h8 rfl);have g8:=eq_of_beq h8;
 (aO (λ(h9:(zAl g)=true)=>have l1:=aL gC (g.kids);have g9:=eq_of_beq h9;
 (aO (λ(h10:(fo<|ae g.kids 0)=true)=>(an (cA (xD<|ae g.kids 1) (hf _<|aw oaa)<|aN 2<|ac (iP g.kids 1)<|aN 2<|ac h10<|cA (xD<|ae g.kids 0) (hf _<|aw oaa)<|aN 2<|ac (iP g.kids 0)<|aN 2<|ac h9<|aN 6<|cA (DK g.op) (show g.op=5 by omega) a0)<|bE<|show rq g=(fo<|ae g.kids 1)from(aD (au h0)<|cdT h1<|aD (au h2)<|cdF h3<|cdF h4<|cdF h5<|cdF h6<|cdF h7<|cdT h8<|aD h9<|aD h10 rfl)))<|λh10=>(an (aN 4<|ac (au h10)<|cA (xD<|ae g.kids 0) (hf _<|aw oaa)<|aN 2<|ac (iP g.kids 0)<|aN 2<|ac h9<|aN 6<|cA (DK g.op) (show g.op=5 by omega) a0)<|bE<|q9.trans<|aD h9<|bg h10)))<|λh9=>have l1:=aL gC (g.kids);have g9:=afX h9;
 (an (aN 9<|ac (au h9)<|aN 6<|cA (DK g.op) (show g.op=5 by omega) a0)<|bE<|q9.trans<|bg h9)))<|λh8=>have q10:=q8.trans (cdF h8 rfl);have g8:=afX h8;
 (aO (λ(h9:(g.op==6)=true)=>have q11:=q10.trans (cdT h9 rfl);have g9:=eq_of_beq h9;
 (aO (λ(h10:(zAl g)=true)=>have l1:=aL gC (g.kids);have g10:=eq_of_beq h10;
 (aO (λ(h11:(fo<|ae g.kids 0)=true)=>(an (cA (xD<|ae g.kids 1) (hf _<|aw oaa)<|aN 2<|ac (iP g.kids 1)<|aN 2<|ac h11<|cA (xD<|ae g.kids 0) (hf _<|aw oaa)<|aN 2<|ac (iP g.kids 0)<|aN 2<|ac h10<|aN 6<|cA (DL g.op) (show g.op=6 by omega) a0)<|bE<|show rq g=(fo<|ae g.kids 1)from(aD (au h0)<|cdT h1<|aD (au h2)<|cdF h3<|cdF h4<|cdF h5<|cdF h6<|cdF h7<|cdF h8<|cdT h9<|aD h10<|aD h11 rfl)))<|λh11=>(an (aN 4<|ac (au h11)<|cA (xD<|ae g.kids 0) (hf _<|aw oaa)<|aN 2<|ac (iP g.kids 0)<|aN 2<|ac h10<|aN 6<|cA (DL g.op) (show g.op=6 by omega) a0)<|bE<|q11.trans<|aD h10<|bg h11)))<|λh10=>have l1:=aL gC (g.kids);have g10:=afX h10;
 (an (aN 9<|ac (au h10)<|aN 6<|cA (DL g.op) (show g.op=6 by omega) a0)<|bE<|q11.trans<|bg h10)))<|λh9=>have q12:=q10.trans (cdF h9 rfl);have g9:=afX h9;
 (aO (λ(h10:(g.op==7)=true)=>have q13:=q12.trans (aD h10 rfl);have g10:=eq_of_beq h10;
 (aO (λ(h11:(zAl g)=true)=>have l1:=aL gC (g.kids);have g11:=eq_of_beq h11;
 (aO (λ(h12:(fo<|ae g.kids 0)=true)=>(an (cA (xD<|ae g.kids 1) (hf _<|aw oaa)<|aN 2<|ac (iP g.kids 1)<|aN 2<|ac h12<|cA (xD<|ae g.kids 0) (hf _<|aw oaa)<|aN 2<|ac (iP g.kids 0)<|aN 2<|ac h11<|aN 6<|cA (DM g.op) (show g.op=7 by omega) a0)<|bE<|show rq g=(fo<|ae g.kids 1)from(aD (au h0)<|cdT h1<|aD (au h2)<|cdF h3<|cdF h4<|cdF h5<|cdF h6<|cdF h7<|cdF h8<|cdF h9<|aD h10<|aD h11<|aD h12 rfl)))<|λh12=>(an (aN 4<|ac (au h12)<|cA (xD<|ae g.kids 0) (hf _<|aw oaa)<|aN 2<|ac (iP g.kids 0)<|aN 2<|ac h11<|aN 6<|cA (DM g.op) (show g.op=7 by omega) a0)<|bE<|q13.trans<|aD h11<|bg h12)))<|λh11=>have l1:=aL gC (g.kids);have g11:=afX h11;
 (an (aN 9<|ac (au h11)<|aN 6<|cA (DM g.op) (show g.op=7 by omega) a0)<|bE<|q13.trans<|bg h11)))<|λh10=>have g10:=afX h10;
 (an (aN 15<|cA (Ui g.op) (show¬(5<=g.op/\g.op<=7)/\g.op<=127 by omega) a0)<|bE<|q12.trans<|bg h10)))))))))))<|λh1=>have q2:=q0.trans (cdF h1 rfl);
 (an (aN 3<|ac (au h1)<|aN 4<|ac (au h0)<|a1 a0)<|an a0<|an a0<|an (aN 3<|ac (au<|show(g.op==0)=false by rw[fY h1];rfl)<|a1 a0)<|an (show(g.op==1)=false by rw[fY h1];rfl)<|an (a1 a0)<|an (show(g.op==8)=true by rw[fY h1];rfl)<|aO (λ(h2:(zAH g)=true)=>(aO (λ(h3:(zBk g)=true)=>(an (aN 3<|ac h3<|aN 3<|ac h2<|a1 a0)<|bE<|show rq g=(zBa g)from(aD (au h0)<|cdF h1<|aD h2<|aD h3 rfl)))<|λh3=>(an (aN 2<|ac (au h3)<|aN 3<|ac h2<|a1 a0)<|bE<|q2.trans<|aD h2<|bg h3)))<|λh2=>(an (aN 5<|ac (au h2)<|a1 a0)<|bE<|q2.trans<|bg h2)))) (hc:=(bn (.cons (MH g.kids 0 hK) rfl<|.cons (Ue ls hK) rfl<|.cons (DK g.op) rfl<|.cons (xD<|ae g.kids 0) rfl<|.cons (xD<|ae g.kids 1) rfl<|.cons (DL g.op) rfl<|.cons (DM g.op) rfl<|.cons (Ui g.op) rfl cy.nil) aE))
theorem oN{n:Nat}(k:Nat)(z:Int)(hz:z=(k:Int)):(((n:Nat):Int)==z)=(n==k):=by grind
theorem MM{n:Nat}:decide (((n:Nat):Int)>=2)=decide (n>=2):=by grind
theorem aaQ(g:G):p9 g=dB g:=by
 obtain⟨o,n,s,l⟩:=g;simp only[p9,dB,G.op,G.n,G.name,G.kids,afW,oN 0 0 rfl,oN 1 1 rfl,oN 2 2 rfl,MM,bne];generalize(n==0)=b;generalize(l.length==0)=l0;generalize(l.length==1)=l1;generalize(l.length==2)=l2;generalize decide (l.length>=2)=l3;generalize kB l=c;generalize(fo (ae l 0)&&fo (ae l 1))=r;cases cT s.data.toList []with
 |false=>rfl
 |true=>
  simp only[ags];by_cases h0:o=0
  ·simp_all
  by_cases h1:o=1
  ·simp_all
  grind
theorem aaR(l:List G):(l.length==1&&kB l)=(l.length==1&&dB (ae l 0)):=by
 match l with
 |[]=>rfl
 |[x]=>simp[kB,ae]
 |x::y::l=>simp
theorem Uj(g:G):rq g=dB g:=by obtain⟨o,n,s,l⟩:=g;simp only[rq,dB,G.op,G.n,G.name,G.kids,afW,oN 0 0 rfl,oN 1 1 rfl,oN 2 2 rfl,MM,bne,aaR];grind
theorem Gs: ∀g:G,dV g->aY pg 132 [.ag (gCC g)] [] [] (B<|dB g) []:=G.xB λo n s l ih hf=>by have h:=aaN (.mk o n s l) hf.len hf.kids λu hu=>ih u hu (hf.kids u hu);rw[aaQ]at h;exact h
theorem Gt: ∀g:G,dV g->aY pg 126 [.ag (gCC g)] [] [] (B<|dB g) []:=G.xB λo n s l ih hf=>by have h:=aaP (.mk o n s l) hf.len hf.kids hf.op.2 λu hu=>ih u hu (hf.kids u hu);rw[Uj]at h;exact h
section
variable(g:G)
def ach:cj:=⟨132,[.ag (gCC g)],B (dB g),dV g⟩
theorem aci:(ach g).bS pg:=λhp=>(by simp_all[Gs,ach,aj,AV.pure])
def acj:cj:=⟨126,[.ag (gCC g)],B (dB g),dV g⟩
theorem ack:(acj g).bS pg:=λhp=>(by simp_all[Gt,acj,aj,AV.pure])
def ic99:cj:=⟨125,[.ag (gCC g)],I (dG g),dV g⟩
theorem gc99:(ic99 g).bS pg:=λhp=>(by simp_all[JK,ic99,aj,AV.pure])
def acm:cj:=⟨131,[.ag (gCC g)],I (dG g),dV g⟩
theorem Uk:(acm g).bS pg:=λhp=>(by simp_all[Gn,acm,aj,AV.pure])
def r93:Int:=(bif decide ((dG g)>64)then 40 else(bif !(dB g)then 40 else 0))
end
abbrev zBY:GT:=(.r [bT]<|.a (.r [.int 0,.k,bF,bF,bF,bT] zF)<|.r [.int 0,.k,bT,bT,.int 1,bT,bT]<|.br zF zF)
def aaS(g:G)(hf:dV g):aY pg 120 [.ag (gCC g)] [] [] (I<|r93 g) []:=
 aV 120 zBY
 (an a0<|aO (λ(h0:(decide<|(dG g)>64)=true)=>(an (aN 2<|ac (n2 h0)<|a1<|cA (Uk g) hf a0)<|an a0<|iE<|show r93 g=_ from(cdT h0 rfl)))<|λh0=>(an (a1<|cA (aci g) hf<|a1<|ac (au h0)<|a1<|cA (Uk g) hf a0)<|brP (λ(h1:(!(dB g))=true)=>(an a0<|iE<|show r93 g=_ from(cdF h0<|cdT h1 rfl)))<|λh1=>(an a0<|iE<|show r93 g=_ from(cdF h0<|cdF h1 rfl)))) (hc:=(bn (.cons (Uk g) rfl<|.cons (aci g) rfl cy.nil) aE))
def r81(g:G):Int:=(bif decide ((dG g)>64)then 40 else(bif !(dB g)then 40 else 0))
def aaT(g:G)(hf:dV g):aY pg 103 [.ag (gCC g)] [] [] (I<|r81 g) []:=
 aV 103 zBY
 (an a0<|aO (λ(h0:(decide<|(dG g)>64)=true)=>(an (aN 2<|ac (n2 h0)<|a1<|cA (gc99 g) hf a0)<|an a0<|iE<|show r81 g=_ from(cdT h0 rfl)))<|λh0=>(an (a1<|cA (ack g) hf<|a1<|ac (au h0)<|a1<|cA (gc99 g) hf a0)<|brP (λ(h1:(!(dB g))=true)=>(an a0<|iE<|show r81 g=_ from(cdF h0<|cdT h1 rfl)))<|λh1=>(an a0<|iE<|show r81 g=_ from(cdF h0<|cdF h1 rfl)))) (hc:=(bn (.cons (gc99 g) rfl<|.cons (ack g) rfl cy.nil) aE))
def i82(g:G)(o:Int):cj:=⟨104,[.pf (gCC g),I8 o],B (fp o g),True⟩
def gd82{g:G}{o:Int}(h:aY pg 104 [.pf (gCC g),I8 o] [] [] (B<|fp o g) []):(i82 g o).bS pg:=λ_=>⟨h,by simp[i82,aj,AV.pure],rfl⟩
def r102(g:G)(o:Int):Bool:=fp o g
def Ul(g:G)(o:Int)(hK:aY pg 104 [.pf (gCC g),I8 o] [] [] (B<|fp o g) []):aY pg 128 [.ag (gCC g),.pf [I8 o]] [] [] (B<|r102 g o) []:=
 aV 128 zCS
 (an a0<|an (cA (gd82 hK) trivial a0)<|bE<|show r102 g o=(fp o g)from rfl) (hc:=(bn (.cons (gd82 hK) rfl cy.nil) aE))
section
variable(l:List G)(o:Int)(j:Nat)
def acn:cj:=⟨128,[.ag (gCC<|ae l j),.pf [I8 o]],B (fp o<|ae l j),j<l.length⟩
theorem aco(hK: ∀u∈l,aY pg 104 [.pf (gCC u),I8 o] [] [] (B<|fp o u) []):(acn l o j).bS pg:=λhp=>⟨Ul _ o (hK _<|aw hp),by simp[acn,aj,AV.pure],rfl⟩
end
def MN:Code:=bD 0 (aG 136)
abbrev DN(l:List G)(o:Int)(i0:Nat):Am.Loc:=[(0,.sl 4 (zCv l)),(1,.fn (.func 128) [] [.pf [I8 o]]),(7,I (length (zCv l):Int)),(8,I (i0:Int))]
abbrev DP(l:List G)(o:Int)(i0:Nat):lXE:=[]
def mP(l:List G)(o:Int)(i0:Nat):Bool:=(fp o<|ae l i0)
def tc(l:List G)(o:Int):Bool:=dA (length l) (mP l o)
abbrev Gu(l:List G)(o:Int)(i0:Nat):Am.Loc:=[(4,I (i0:Int))]
abbrev Gv(l:List G)(o:Int)(i0:Nat):lXE:=[]
abbrev Gw(l:List G)(o:Int):Am.Loc:=[]
abbrev Gy(l:List G)(o:Int):lXE:=[]
section
variable(l:List G)(o:Int)
def xI:KB:=anK 0 (length l) (mP l o) (DN l o) (DP l o) .ret (Gu l o) (Gv l o) (.exit 0) (Gw l o) (Gy l o) (True)
abbrev DQ(i0:Nat):List bf:=[htW (mP l o i0) .ret (Gu l o i0) zb (Gv l o i0),nxW (mP l o i0) (DN l o<|i0+1) (DP l o<|i0+1) (DN l o<|i0+1) zb (DP l o<|i0+1)]
theorem JO(ls:length l<=9223372036854775807)(hK: ∀u∈l,aY pg 104 [.pf (gCC u),I8 o] [] [] (B<|fp o u) []):cx pg 19 0 0 (.loop MN) (xI l o):=
 anB (DQ l o) (λi0=>(.r [.k,bT]<|.yes<|.r [bT]<|zCO i0 l)) (range 0) zE
 (λ_ i0(hx0:i0<(length l))=>have l1:=aL gC (l);have hb:(zCR i0 l)=true:=afT oaa;
 bB (an (a1 a0)<|an hb<|an a0<|an (cA (aco l o i0 hK) (show i0<length l by omega)<|ac (iP l i0) a0)<|brP (λ(h1:(fp o<|ae l i0)=true)=>(an a0<|lf (wy (DQ l o i0) 0) 0<|show mP l o i0=true from h1))<|λh1=>(an (ac (dwo ((i0+1:Nat):Int)) a0)<|lf (wy (DQ l o i0) 1) 0 ⟨(show mP l o i0=false from h1),rfl,rfl⟩))
 oab)
 (λ_=>have l1:=aL gC (l);have hb:(zBM l)=false:=afU oaa;
 bB (an (a1 a0)<|an hb<|lx (.exit 0) (Gw l o) (range 0) (Gy l o) 0)
 oab) (hc:=λ_ i0 hx0=>(bn (.cons (aco l o i0 hK) rfl cy.nil) aE))
def ua:Int:=(bif tc l o then(((lB (length l)<|mP l o):Nat):Int)else(-1))
end
def qb:di [0] (aG 136)=[(0,.loop MN)]:=by kernel_rfl
def MO(l:List G)(o:Int)(ls:length l<=9223372036854775807)(hK: ∀u∈l,aY pg 104 [.pf (gCC u),I8 o] [] [] (B<|fp o u) []):aY pg 136 [.sl 4 (zCv l),.fn (.func 128) [] [.pf [I8 o]]] [] [] (I<|ua l o) []:=
 aV 136 zf
 (an a0<|an a0<|an (kbT (xI l o) trivial)<|brP (λ(h0:(tc l o)=true)=>(iE<|show ua l o=_ from(cdT h0 rfl)))<|λh0=>(an a0<|iE<|show ua l o=_ from(cdF h0 rfl))) (hk:=(bw (l:=[(0,xI l o)]) qb (aK (JO l o ls hK) rfl aU) rfl))
def acp(l:List G)(o:Int):cj:=⟨136,[.sl 4 (l.map gC),.fn (.func 128) [] [.pf [I8 o]]],I (ua l o),True⟩
def Um{l:List G}{o:Int}(h:aY pg 136 [.sl 4 (l.map gC),.fn (.func 128) [] [.pf [I8 o]]] [] [] (I<|ua l o) []):(acp l o).bS pg:=λ_=>⟨h,by simp[acp,aj,AV.pure],rfl⟩
section
variable(l:List G)(o:Int)
def MP:Bool:=decide ((ua l o)>=0)
def DS(ls:length l<=9223372036854775807)(hK: ∀u∈l,aY pg 104 [.pf (gCC u),I8 o] [] [] (B<|fp o u) []):aY pg 127 [.sl 4 (zCv l),.fn (.func 128) [] [.pf [I8 o]]] [] [] (B<|MP l o) []:=
 aV 127 zBW
 (an a0<|an (a1<|cA (Um<|MO l o ls hK) trivial a0)<|bE<|show MP l o=(decide<|(ua l o)>=0)from rfl) (hc:=(bn (.cons (Um<|MO l o ls hK) rfl cy.nil) aE))
theorem Un:MP l o=lD o l:=by have h2:tc l o=l.any (fp o):=j0 (fp o) l;grind[MP,ua,xA]
def acq:cj:=⟨127,[.sl 4 (l.map gC),.fn (.func 128) [] [.pf [I8 o]]],B (lD o l),True⟩
end
def DT{l:List G}{o:Int}(ls:l.length<=9223372036854775807)(hK: ∀u∈l,aY pg 104 [.pf (gCC u),I8 o] [] [] (B<|fp o u) []):(acq l o).bS pg:=λ_=>⟨by have:=DS l o ls hK;rw[Un]at this;exact this,by simp[acq,aj,AV.pure],rfl⟩
def r82(g:G)(o:Int):Bool:=((g.op==o)||lD o g.kids)
abbrev zBw:GT:=(.r [bT]<|.a (.r zJ .nil)<|.r (.k::uTT 6 [.int 0,bT]) .nil)
def aaU(g:G)(o:Int)(ls:length g.kids<=9223372036854775807)(hK: ∀u∈G.kids g,aY pg 104 [.pf (gCC u),I8 o] [] [] (B<|fp o u) []):aY pg 104 [.pf (gCC g),I8 o] [] [] (B<|r82 g o) []:=
 aV 104 zBw
 (an a0<|aO (λ(h0:(g.op==o)=true)=>(an (aN 5<|ac (n2 h0)<|a1 a0)<|bE<|show r82 g o=true from(orT h0)))<|λh0=>(an (cA (DT ls hK) trivial<|aN 5<|ac (au h0)<|a1 a0)<|bE<|show r82 g o=(lD o g.kids)from(orF h0 rfl))) (hc:=(bn (.cons (DT ls hK) rfl cy.nil) aE))
def uc(o:Int): ∀g:G,dV g->aY pg 104 [.pf (gCC g),I8 o] [] [] (B<|fp o g) []:=G.xB λo' n s l ih hf=>by
 have h:=aaU (.mk o' n s l) o hf.len λu hu=>ih u hu (hf.kids u hu);have e:r82 (.mk o' n s l) o=fp o (.mk o' n s l):=by simp only[r82,fp];rfl
 rw[<-e];exact h
end Go.Proofs.YtfkjfjalecikkaaGreat
end
