/- An abstract machine: the tables that are known ahead: the powers of ten of strconv. An abstract machine over the model's program logic, part A: abstract values, what they stand for in memory, and how that is kept when memory grows. An abstract machine, part B: live objects, the invariant, what one operation does, and a region's operations one behind the other or in any order that Go lets. An abstract machine, part C: a region whose operations Go may carry out in more than one order: what holds in the order of the text holds in each. An abstract machine, part D: code, loops, functions, calls. An abstract machine, part E: the operations, first half: those that hang on slots alone, or read. An abstract machine, part F: operators, lengths, indexes, pieces of slices. An abstract machine, part G: operations that make objects, write to them, or make memory that is never written again. An abstract machine, part H: stores, structs and slices built, append. An abstract machine, part I: structs and slices built; append. An abstract machine, part J: append to a live row; calls. An abstract machine, part K: a call sees of the objects just those that it is handed. -/
import GoSem.Claim
import Derived.WalkKit
import Derived.ProofKit
import Derived.Orders
import Derived.OrdersIn
import Derived.TacticsIn
import Derived.Sort.LoopGhostIn
import Derived.RangeFuncRecord
import Derived.RangeFuncLeaves
import Derived.Laws.StructEq
import Derived.Deep.LoopGhost
import Derived.Great.BuildSlice
import Derived.Deep.AppendSrc
namespace Go
theorem afv:type_of% @Bool.and_eq_true:=@Bool.and_eq_true
theorem afD:type_of% @Option.some.injEq:=@Option.some.injEq
theorem afE:type_of% @of_decide_eq_false:=@of_decide_eq_false
theorem afF:type_of% @List.getElem?_eq_some_iff:=@List.getElem?_eq_some_iff
theorem afG:type_of% @Nat.le_refl:=@Nat.le_refl
theorem afH:type_of% @decide_eq_true:=@decide_eq_true
theorem afI:type_of% @decide_eq_false:=@decide_eq_false
theorem afJ:type_of% @Nat.eq_of_beq_eq_true:=@Nat.eq_of_beq_eq_true
theorem afK:type_of% @List.length_map:=@List.length_map
theorem afL:type_of% @of_decide_eq_true:=@of_decide_eq_true
theorem afM:type_of% @List.getElem?_map:=@List.getElem?_map
theorem afN:type_of% @cond_true:=@cond_true
theorem afO:type_of% @List.getElem?_append_left:=@List.getElem?_append_left
theorem afP:type_of% @Bool.not_eq_true':=@Bool.not_eq_true'
theorem afQ:type_of% @congrArg:=@congrArg
theorem afR:type_of% @List.getElem?_eq_getElem:=@List.getElem?_eq_getElem
theorem afS:type_of% @List.length_append:=@List.length_append
theorem afT:type_of% @ne_of_beq_false:=@ne_of_beq_false
theorem afU:type_of% @Bool.or_eq_false_iff:=@Bool.or_eq_false_iff
theorem afV:type_of% @Option.map_some:=@Option.map_some
theorem afW:type_of% @Prod.mk.injEq:=@Prod.mk.injEq
theorem afX:type_of% @List.length_cons:=@List.length_cons
theorem afY:type_of% @cond_false:=@cond_false
theorem afZ:type_of% @List.map_cons:=@List.map_cons
theorem af0:type_of% @decide_eq_false_iff_not:=@decide_eq_false_iff_not
theorem af1:type_of% @List.getElem?_set_ne:=@List.getElem?_set_ne
theorem af2:type_of% @List.all_eq_true:=@List.all_eq_true
theorem af3:type_of% @List.length_set:=@List.length_set
theorem af4:type_of% @Array.getD_eq_getD_getElem?:=@Array.getD_eq_getD_getElem?
theorem af5:type_of% @List.getElem?_eq_none:=@List.getElem?_eq_none
theorem af6:type_of% @List.length_nil:=@List.length_nil
theorem af7:type_of% @Nat.zero_le:=@Nat.zero_le
theorem af8:type_of% @List.ext_getElem?:=@List.ext_getElem?
theorem af9:type_of% @List.mem_cons_of_mem:=@List.mem_cons_of_mem
theorem aga:type_of% @Bool.not_eq_false':=@Bool.not_eq_false'
theorem agb:type_of% @List.getElem?_append_right:=@List.getElem?_append_right
theorem agc:type_of% @List.mem_cons:=@List.mem_cons
theorem agd:type_of% @List.take_of_length_le:=@List.take_of_length_le
theorem age:type_of% @List.getElem?_replicate:=@List.getElem?_replicate
theorem agf:type_of% @ByteArray.size_append:=@ByteArray.size_append
theorem agh:type_of% @List.length_take:=@List.length_take
theorem agi:type_of% @List.getElem?_set_self:=@List.getElem?_set_self
theorem agj:type_of% @Bool.true_and:=@Bool.true_and
theorem agk:type_of% @List.eq_nil_of_length_eq_zero:=@List.eq_nil_of_length_eq_zero
theorem agl:type_of% @List.mem_map:=@List.mem_map
theorem agm:type_of% @List.mem_of_getElem?:=@List.mem_of_getElem?
theorem agn:type_of% @List.mem_append:=@List.mem_append
theorem ago:type_of% @bne_eq_false_iff_eq:=@bne_eq_false_iff_eq
theorem agp:type_of% @List.getElem?_take:=@List.getElem?_take
theorem agq:type_of% @List.getD_eq_getElem?_getD:=@List.getD_eq_getElem?_getD
theorem agr:type_of% @Nat.le_trans:=@Nat.le_trans
theorem ags:type_of% @List.take_append_drop:=@List.take_append_drop
theorem agt:type_of% @Nat.ble_eq_true_of_le:=@Nat.ble_eq_true_of_le
theorem agu:type_of% @Nat.mul_le_mul_right:=@Nat.mul_le_mul_right
theorem agv:type_of% @List.take_length:=@List.take_length
theorem agw:type_of% @List.flatten_cons:=@List.flatten_cons
theorem agx:type_of% @Bool.not_false:=@Bool.not_false
theorem agy:type_of% @List.mem_of_mem_take:=@List.mem_of_mem_take
theorem agz:type_of% @Nat.lt_of_lt_of_le:=@Nat.lt_of_lt_of_le
theorem agA:type_of% @List.map_nil:=@List.map_nil
theorem agB:type_of% @List.map_congr_left:=@List.map_congr_left
theorem agC:type_of% @List.cons_append:=@List.cons_append
theorem agD:type_of% @Nat.add_mul:=@Nat.add_mul
theorem agE:type_of% @Nat.ne_of_beq_eq_false:=@Nat.ne_of_beq_eq_false
theorem agF:type_of% @Array.getElem?_eq_getElem:=@Array.getElem?_eq_getElem
theorem agG:type_of% @List.append_nil:=@List.append_nil
theorem agH:type_of% @Option.some.inj:=@Option.some.inj
theorem agI:type_of% @List.not_mem_nil:=@List.not_mem_nil
theorem agJ:type_of% @List.append_assoc:=@List.append_assoc
theorem agK:type_of% @List.map_map:=@List.map_map
theorem agL:type_of% @if_true:=@if_true
theorem agM:type_of% @List.getElem?_cons_zero:=@List.getElem?_cons_zero
theorem agN:type_of% @List.getElem?_drop:=@List.getElem?_drop
theorem agO:type_of% @List.mem_singleton:=@List.mem_singleton
theorem agP:type_of% @Bool.and_self:=@Bool.and_self
theorem agQ:type_of% @beq_iff_eq:=@beq_iff_eq
theorem agR:type_of% @Nat.zero_add:=@Nat.zero_add
theorem agS:type_of% @Bool.not_not:=@Bool.not_not
theorem agT:type_of% @Array.getElem?_eq_some_iff:=@Array.getElem?_eq_some_iff
theorem agU:type_of% @List.nodup_nil:=@List.nodup_nil
theorem agV:type_of% @List.mem_or_eq_of_mem_set:=@List.mem_or_eq_of_mem_set
theorem agW:type_of% @List.pairwise_iff_getElem:=@List.pairwise_iff_getElem
theorem agX:type_of% @Bool.or_eq_true:=@Bool.or_eq_true
theorem agY:type_of% @List.getElem?_cons_succ:=@List.getElem?_cons_succ
theorem agZ:type_of% @List.all_cons:=@List.all_cons
theorem ag0:type_of% @Int.toNat_natCast:=@Int.toNat_natCast
theorem ag1:type_of% @Array.length_toList:=@Array.length_toList
theorem ag2:type_of% @List.length_drop:=@List.length_drop
theorem ag3:type_of% @Nat.lt_succ_self:=@Nat.lt_succ_self
theorem ag4:type_of% @List.mem_cons_self:=@List.mem_cons_self
theorem ag5:type_of% @List.length_replicate:=@List.length_replicate
theorem ag6:type_of% @List.mem_append_left:=@List.mem_append_left
theorem ag7:type_of% @List.map_append:=@List.map_append
theorem ag8:type_of% @List.size_toArray:=@List.size_toArray
theorem ag9:type_of% @Bool.eq_iff_iff:=@Bool.eq_iff_iff
theorem aha:type_of% @decide_eq_true_eq:=@decide_eq_true_eq
theorem ahb:type_of% @Nat.le_of_lt:=@Nat.le_of_lt
theorem ahc:type_of% @List.map_toArray:=@List.map_toArray
theorem ahd:type_of% @List.mem_range:=@List.mem_range
theorem ahe:type_of% @List.nodup_cons:=@List.nodup_cons
end Go
set_option linter.defProp false
open Go.IntKind (wrap)
namespace Go
abbrev lXA:=List Int
abbrev lXB:=List Bool
abbrev lXC:=List Nat
abbrev lXD:=List ByteArray
theorem nbl{a b:Nat}(h:Nat.ble a b=true):a≤b:=Nat.le_of_ble_eq_true h
end Go
noncomputable section
open List (length map range replicate)
namespace Go
section
variable{p:Prop}
theorem oaa(h:p:=by omega):p:=h
theorem oab(h:p:=by kernel_rfl):p:=h
theorem oac(h:p:=by repeat' first|exact ba|refine mqc ?_ ?_|exact .inl ⟨rfl,rfl⟩|exact .inr ⟨rfl,by simp⟩):p:=h
theorem oad(h:p:=by repeat' first|exact ba|refine mqc ?_ ?_|exact .inl rfl|exact .inr (by simp)):p:=h
theorem oae(h:p:=by first|rfl|(simp only[afK,af3,afS]at*;omega)):p:=h
theorem oaf(h:p:=by simp):p:=h
theorem oag(h:p:=by simp[AV.pure,aq,aM]):p:=h
theorem oah(h:p:=by cases h):p:=h
theorem oai(h:p:=by simp_all[aR,AV.pure]):p:=h
theorem oaj(h:p:=by repeat' first|exact ba|refine mqc ?_ ?_|exact .inl ⟨rfl,rfl⟩|exact .inl ⟨rfl,aR _ _ oaf⟩|exact .inr ⟨rfl,rfl,aR _ _ oaf⟩):p:=h
theorem oak(h:p:=by first|rfl|simp[Ob.und,AV.und,bN,bw,bO,bA]):p:=h
theorem oal(h:p:=by grind[Code.inR]):p:=h
theorem oam(h:p:=by simp[aq,aM,AV.pure]):p:=h
theorem oan(h:p:=by first|omega|(have:=cE hp0;simp only[afK]at this;omega)):p:=h
theorem oao(h:p:=by cases e):p:=h
theorem oap(h:p:=by rw[afK];omega):p:=h
theorem oaq(h:p:=by simp_all):p:=h
theorem oar(h:p:=by have:=CU g.kids ls hK;rw[all_eq]at this;exact this):p:=h
theorem oas(h:p:=by simp[AV.pure,aW bY]):p:=h
theorem oat(h:p:=by simp[Ob.und,bw bY]):p:=h
theorem oau(h:p:=by simp;omega):p:=h
theorem oav(h:p:=by rw[hg];simp):p:=h
theorem oaw(h:p:=by rw[<-e];rfl):p:=h
theorem oax(h:p:=by apply lG<;>first|rfl|simp (maxDischargeDepth:=9) [kr5,GY,ob5]):p:=h
theorem oay(h:p:=by grind):p:=h
theorem oaz(h:p:=by simp[vs];omega):p:=h
theorem oaA(h:p:=by rw[hI.1];have:=(hn.to _ (ai hx0) _<|ai hx2);omega):p:=h
theorem oaB(h:p:=by simp only[af3,afS,agh,afX,af6];omega):p:=h
theorem oaC(h:p:=by first|rfl|simp[Ob.und,AV.und,bN,cM,bw,bO,bA]):p:=h
theorem oaD(h:p:=by rw[<-hobc];simp only[afZ,agY,agM,jG]):p:=h
theorem oaE(h:p:=by decide):p:=h
theorem oaF(h:p:=by have:=hf.ah _ (ai hi);omega):p:=h
theorem oaG(h:p:=by cases h;exact Ext.refl _):p:=h
theorem oaH(h:p:=by grind[cQ,jX]):p:=h
theorem oaI(h:p:=by rfl):p:=h
theorem oaJ(h:p:=by simp[Ob.und,AV.und,bN,bw,bO,bA]):p:=h
theorem oaK(h:p:=by repeat' first|exact ba|refine mqc ?_ ?_|exact rfl|exact aR 1 _ oaf):p:=h
theorem oaL(h:p:=by simpa using hl):p:=h
theorem oaM(h:p:=by unfold World.freeze;split<;>rfl):p:=h
theorem oaN(h:p:=by simpa using h):p:=h
theorem oaO(h:p:=by simpa using e):p:=h
end
end Go
namespace Go.Am
def yV:List (Nat×List Value):=[(0,([1,10,100,1000,10000,100000,1000000,10000000,100000000,1000000000,10000000000,100000000000,1000000000000,10000000000000,100000000000000,1000000000000000,10000000000000000,100000000000000000,1000000000000000000,10000000000000000000]:lXC).map λ(n:Nat)=> .int .u64 n)]
def Pr:yV.all (λp=> !p.2.isEmpty)=true:=rfl
def qg(a:Addr):Option Value:=match a.spot with
 |none=>match yV.lookup a.block with
  |some cs=>cs[a.off]?
  |none=>none
 |some _=>none
structure Mem where
 get:Addr->Option Value
 has: ∀a x,qg a=some x->get a=some x
instance:CoeFun Mem λ_=>Addr->Option Value:=⟨Mem.get⟩
abbrev Gam:=Nat->Option (Option<|Nat×Nat)
inductive AV where
 |any
 |v (x:Value)
 |sl (S:Nat) (rows:List (List AV))
 |ag (cells:List AV)
 |tu (vs:List AV)
 |pt (o off:Nat)
 |pf (cells:List AV)
 |sr (o S lo len:Nat)
 |fn (f:Fn) (first captured:List AV)
 |ifc (t:TypeId) (x:AV)
 |mp (o:Nat)
 |yl (o:Nat)
 |cl (S:Nat) (rows:List (List AV))
 deriving Inhabited
abbrev lXF:=List AV
mutual
def Rep (m:Mem) (γ:Gam):AV->Value->Prop
 | .any,_=>True
 | .v y,x=>x=y
 | .sl S rows,x=> ∃a len cap,x= .slice a len cap/\len=rows.length/\len<=cap/\(rows=[]\/ ∃b off,a=some ⟨b,off,none⟩/\bM m γ S rows b off)
 | .ag cs,x=> ∃xs:List Value,x= .agg xs.toArray/\au m γ cs xs
 | .tu cs,x=> ∃xs:List Value,x= .tuple xs.toArray/\au m γ cs xs
 | .pt o off,x=> ∃b C,γ o=some (some (b,C))/\x= .pointer (some ⟨b,off,none⟩)
 | .pf cs,x=> ∃b off,x= .pointer (some ⟨b,off,none⟩)/\bD m γ cs b off
 | .sr o S lo len,x=>(γ o=some none/\(∃a,x= .slice a 0 0)/\lo=0/\len=0)\/ ∃b C cap,γ o=some (some (b,C))/\lo+len<=C/\len<=cap/\cap<=C-lo/\(x= .slice (some ⟨b,lo*S,none⟩) len cap\/(len=0/\lo≠0/\ ∃a,x= .slice a 0 cap))
 | .fn f fs cs,x=> ∃xs ys:List Value,x= .func f xs.toArray ys.toArray/\au m γ fs xs/\au m γ cs ys
 | .ifc t y,x=> ∃z,x= .iface t z/\Rep m γ y z
 | .mp o,x=> ∃b C,γ o=some (some (b,C))/\x= .map (some b)
 | .yl o,x=> ∃b C,γ o=some (some (b,C))/\x= .func (.yield b) #[] #[]
 | .cl S rows,x=> ∃a len,x= .slice a len len/\len=rows.length/\(rows=[]\/ ∃b off,a=some ⟨b,off,none⟩/\bM m γ S rows b off)
def au (m:Mem) (γ:Gam):lXF->List Value->Prop
 |[],xs=>xs=[]
 |c::cs,xs=> ∃x r,xs=x::r/\Rep m γ c x/\au m γ cs r
def bD (m:Mem) (γ:Gam):lXF->Nat->Nat->Prop
 |[],_,_=>True
 |c::cs,b,off=>(∃x,m ⟨b,off,none⟩=some x/\Rep m γ c x)/\bD m γ cs b (off+1)
def bM (m:Mem) (γ:Gam) (S:Nat):List lXF->Nat->Nat->Prop
 |[],_,_=>True
 |r::rs,b,off=>r.length=S/\bD m γ r b off/\bM m γ S rs b (off+S)
end
mutual
def AV.free (ks:lXC):AV->Bool
 | .any=>true
 | .v _=>true
 | .sl _ rows=>eZ ks rows
 | .ag cs=>cJ ks cs
 | .tu cs=>cJ ks cs
 | .pt o _=> !ks.contains o
 | .pf cs=>cJ ks cs
 | .sr o _ _ _=> !ks.contains o
 | .fn _ fs cs=>cJ ks fs&&cJ ks cs
 | .ifc _ y=>y.free ks
 | .mp o=> !ks.contains o
 | .yl o=> !ks.contains o
 | .cl _ rows=>eZ ks rows
def cJ (ks:lXC):lXF->Bool
 |[]=>true
 |c::cs=>c.free ks&&cJ ks cs
def eZ (ks:lXC):List lXF->Bool
 |[]=>true
 |r::rs=>cJ ks r&&eZ ks rs
end
mutual
theorem AV.ei: ∀av:AV,av.free []=true
 | .any=>by simp[AV.free]
 | .v _=>by simp[AV.free]
 | .sl _ rows=>by simp[AV.free,ju rows]
 | .ag cs=>by simp[AV.free,dj cs]
 | .tu cs=>by simp[AV.free,dj cs]
 | .pt o _=>by simp[AV.free]
 | .pf cs=>by simp[AV.free,dj cs]
 | .sr o _ _ _=>by simp[AV.free]
 | .fn _ fs cs=>by simp[AV.free,dj fs,dj cs]
 | .ifc _ y=>by simp[AV.free,AV.ei y]
 | .mp o=>by simp[AV.free]
 | .yl o=>by simp[AV.free]
 | .cl _ rows=>by simp[AV.free,ju rows]
theorem dj: ∀cs:lXF,cJ [] cs=true
 |[]=>by simp[cJ]
 |c::cs=>by simp[cJ,AV.ei c,dj cs]
theorem ju: ∀rows:List lXF,eZ [] rows=true
 |[]=>by simp[eZ]
 |r::rs=>by simp[eZ,dj r,ju rs]
end
structure Le(m:Mem)(γ:Gam)(ks:lXC)(m':Mem)(γ':Gam):Prop where
 mem: ∀a x,m a=some x->m' a=some x
 gam: ∀o g,γ o=some g->ks.contains o=false->γ' o=some g
section
variable{m m':Mem}{γ γ':Gam}{ks:lXC}
mutual
theorem fj (h:Le m γ ks m' γ'): ∀(av:AV)(x:Value),av.free ks=true->Rep m γ av x->Rep m' γ' av x
 | .any,_,_,_=>by simp[Rep]
 | .v _,_,_,hr=>by simpa [Rep]using hr
 | .sl S rows,_,hf,hr=>by simp only[AV.free]at hf;simp only[Rep]at hr⊢;obtain⟨a,len,cap,h1,h2,h3,h4⟩:=hr;refine⟨a,len,cap,h1,h2,h3,h4.imp id ?_⟩;rintro⟨b,off,h5,h6⟩;exact⟨b,off,h5,lW h S rows b off hf h6⟩
 | .ag cs,_,hf,hr=>by simp only[AV.free]at hf;simp only[Rep]at hr⊢;obtain⟨xs,h1,h2⟩:=hr;exact⟨xs,h1,dQ h cs xs hf h2⟩
 | .tu cs,_,hf,hr=>by simp only[AV.free]at hf;simp only[Rep]at hr⊢;obtain⟨xs,h1,h2⟩:=hr;exact⟨xs,h1,dQ h cs xs hf h2⟩
 | .pt o off,_,hf,hr=>by simp only[AV.free,afP]at hf;simp only[Rep]at hr⊢;obtain⟨b,C,h1,h2⟩:=hr;exact⟨b,C,h.gam o _ h1 hf,h2⟩
 | .pf cs,_,hf,hr=>by simp only[AV.free]at hf;simp only[Rep]at hr⊢;obtain⟨b,off,h1,h2⟩:=hr;exact⟨b,off,h1,kh h cs b off hf h2⟩
 | .sr o S lo len,_,hf,hr=>by
  simp only[AV.free,afP]at hf;simp only[Rep]at hr⊢;rcases hr with⟨h1,h2⟩|⟨b,C,cap,h1,h2⟩
  ·exact .inl ⟨h.gam o _ h1 hf,h2⟩
  ·exact .inr ⟨b,C,cap,h.gam o _ h1 hf,h2⟩
 | .fn f fs cs,_,hf,hr=>by simp only[AV.free,afv]at hf;simp only[Rep]at hr⊢;obtain⟨xs,ys,h1,h2,h3⟩:=hr;exact⟨xs,ys,h1,dQ h fs xs hf.1 h2,dQ h cs ys hf.2 h3⟩
 | .ifc t y,_,hf,hr=>by simp only[AV.free]at hf;simp only[Rep]at hr⊢;obtain⟨z,h1,h2⟩:=hr;exact⟨z,h1,fj h y z hf h2⟩
 | .mp o,_,hf,hr=>by simp only[AV.free,afP]at hf;simp only[Rep]at hr⊢;obtain⟨b,C,h1,h2⟩:=hr;exact⟨b,C,h.gam o _ h1 hf,h2⟩
 | .yl o,_,hf,hr=>by simp only[AV.free,afP]at hf;simp only[Rep]at hr⊢;obtain⟨b,C,h1,h2⟩:=hr;exact⟨b,C,h.gam o _ h1 hf,h2⟩
 | .cl S rows,_,hf,hr=>by simp only[AV.free]at hf;simp only[Rep]at hr⊢;obtain⟨a,len,h1,h2,h4⟩:=hr;refine⟨a,len,h1,h2,h4.imp id ?_⟩;rintro⟨b,off,h5,h6⟩;exact⟨b,off,h5,lW h S rows b off hf h6⟩
theorem dQ (h:Le m γ ks m' γ'): ∀(cs:lXF)(xs:List Value),cJ ks cs=true->au m γ cs xs->au m' γ' cs xs
 |[],_,_,hr=>by simpa [au]using hr
 |c::cs,_,hf,hr=>by simp only[cJ,afv]at hf;simp only[au]at hr⊢;obtain⟨x,r,h1,h2,h3⟩:=hr;exact⟨x,r,h1,fj h c x hf.1 h2,dQ h cs r hf.2 h3⟩
theorem kh (h:Le m γ ks m' γ'): ∀(cs:lXF)(b off:Nat),cJ ks cs=true->bD m γ cs b off->bD m' γ' cs b off
 |[],_,_,_,_=>by simp[bD]
 |c::cs,b,off,hf,hr=>by simp only[cJ,afv]at hf;simp only[bD]at hr⊢;obtain⟨⟨x,h1,h2⟩,h3⟩:=hr;exact⟨⟨x,h.mem _ _ h1,fj h c x hf.1 h2⟩,kh h cs b (off+1) hf.2 h3⟩
theorem lW (h:Le m γ ks m' γ') (S:Nat): ∀(rows:List lXF)(b off:Nat),eZ ks rows=true->bM m γ S rows b off->bM m' γ' S rows b off
 |[],_,_,_,_=>by simp[bM]
 |r::rs,b,off,hf,hr=>by simp only[eZ,afv]at hf;simp only[bM]at hr⊢;obtain⟨h1,h2,h3⟩:=hr;exact⟨h1,kh h r b off hf.1 h2,lW h S rs b (off+S) hf.2 h3⟩
end
end
section
variable{m:Mem}{γ:Gam}
theorem aZ: ∀{cs:lXF}{xs:List Value},au m γ cs xs->xs.length=cs.length
 |[],_,h=>by simp only[au]at h;simp[h]
 |c::cs,_,h=>by simp only[au]at h;obtain⟨x,r,rfl,_,h3⟩:=h;simp[aZ h3]
theorem bX: ∀{cs:lXF}{xs:List Value},au m γ cs xs-> ∀(i:Nat)(c:AV),cs[i]? =some c-> ∃x,xs[i]? =some x/\Rep m γ c x
 |[],_,_,i,c,hc=>by simp at hc
 |d::cs,_,h,i,c,hc=>by
  simp only[au]at h;obtain⟨x,r,rfl,h2,h3⟩:=h;cases i with
  |zero=>simp_all
  |succ i=>simpa using bX h3 i c (by simpa using hc)
theorem cF: ∀{cs:lXF}{xs:List Value},xs.length=cs.length->(∀(i:Nat)(c:AV)(x:Value),cs[i]? =some c->xs[i]? =some x->Rep m γ c x)->au m γ cs xs
 |[],xs,hl,_=>by simp only[au];simpa using hl
 |c::cs,[],hl,_=>by simp at hl
 |c::cs,x::xs,hl,h=>by simp only[au];exact⟨x,xs,rfl,h 0 c x rfl rfl,cF oaL (λi d y hd hy=>h (i+1) d y (by simpa using hd)<|by simpa using hy)⟩
theorem cu{cs ds:lXF}{xs ys:List Value}(h:au m γ cs xs)(k:au m γ ds ys):au m γ (cs++ds) (xs++ys):=by
 induction cs generalizing xs with
 |nil=>grind[au]
 |cons c cs ih=>grind[au]
section
variable{cs:lXF}{xs:List Value}
theorem EC(h:au m γ cs xs)(i:Nat){c:AV}{x:Value}(hx:Rep m γ c x):au m γ (cs.set i c) (xs.set i x):=by grind[cF,aZ,bX]
theorem eG(h:au m γ cs xs)(i:Nat):au m γ (cs.drop i) (xs.drop i):=by grind[cF,aZ,bX]
theorem dG(h:au m γ cs xs)(i:Nat):au m γ (cs.take i) (xs.take i):=by grind[cF,aZ,bX]
end
theorem qi: ∀{cs:lXF}{b off:Nat},bD m γ cs b off-> ∀(i:Nat)(c:AV),cs[i]? =some c-> ∃x,m ⟨b,off+i,none⟩=some x/\Rep m γ c x
 |[],_,_,_,i,c,hc=>by simp at hc
 |d::cs,b,off,h,i,c,hc=>by
  simp only[bD]at h;obtain⟨⟨x,h1,h2⟩,h3⟩:=h;cases i with
  |zero=>simp_all
  |succ i=>obtain⟨y,hy,hr⟩:=qi h3 i c (by simpa using hc);grind
theorem fv: ∀{cs:lXF}{b off:Nat},bD m γ cs b off-> ∀(i:Nat),bD m γ (cs.drop i) b (off+i)
 |cs,b,off,h,0=>by simpa using h
 |[],_,_,_,i+1=>by simp[bD]
 |d::cs,b,off,h,i+1=>by simp only[bD]at h;have:=fv h.2 i;grind
theorem eF: ∀{cs:lXF}{b off:Nat},(∀(i:Nat)(c:AV),cs[i]? =some c-> ∃x,m ⟨b,off+i,none⟩=some x/\Rep m γ c x)->bD m γ cs b off
 |[],_,_,_=>by simp[bD]
 |c::cs,b,off,h=>by simp only[bD];refine⟨by simpa using h 0 c rfl,eF λi d hd=> ?_⟩;obtain⟨x,hx,hr⟩:=h (i+1) d (by simpa using hd);grind
theorem kJ: ∀{cs:lXF}{b off:Nat},bD m γ cs b off-> ∃xs:List Value,au m γ cs xs/\ ∀(i:Nat)(x:Value),xs[i]? =some x->m ⟨b,off+i,none⟩=some x
 |[],_,_,_=>⟨[],by simp[au],by simp⟩
 |c::cs,b,off,h=>by simp only[bD]at h;obtain⟨⟨x,h1,h2⟩,h3⟩:=h;obtain⟨xs,k1,k2⟩:=kJ h3;refine⟨x::xs,by grind[au],λi y hy=> ?_⟩;grind
theorem iT{S:Nat}: ∀{rows:List lXF}{b off:Nat},bM m γ S rows b off-> ∀(i:Nat)(r:lXF),rows[i]? =some r->r.length=S/\bD m γ r b (off+i*S)
 |[],_,_,_,i,r,hr=>by simp at hr
 |q::rs,b,off,h,i,r,hr=>by
  simp only[bM]at h;obtain⟨h1,h2,h3⟩:=h;cases i with
  |zero=>simp_all
  |succ i=>obtain⟨k1,k2⟩:=iT h3 i r (by simpa using hr);grind
theorem gX{S:Nat}: ∀{rows:List lXF}{b off:Nat},(∀(i:Nat)(r:lXF),rows[i]? =some r->r.length=S/\bD m γ r b (off+i*S))->bM m γ S rows b off
 |[],_,_,_=>by simp[bM]
 |q::rs,b,off,h=>by simp only[bM];have h0:=h 0 q rfl;refine⟨h0.1,by simpa using h0.2,gX λi r hr=> ?_⟩;obtain⟨k1,k2⟩:=h (i+1) r (by simpa using hr);grind
section
variable{S:Nat}{rows:List lXF}{b off:Nat}
theorem jv(h:bM m γ S rows b off)(i:Nat):bM m γ S (rows.drop i) b (off+i*S):=by refine gX λj r hr=> ?_;rw[agN]at hr;obtain⟨k1,k2⟩:=iT h _ r hr;grind
theorem jw(h:bM m γ S rows b off)(i:Nat):bM m γ S (rows.take i) b off:=by refine gX λj r hr=> ?_;grind[iT]
end
end
structure ej where
 n:Nat
 ps:Array Tmp
 assign:Code
 body:Code
 jump:Option Code
def ej.free(k:ej):Bool:=match k.jump with
 |none=>true
 |some _=>false
def ej.left(k:ej):Option Code->ej
 |none=>k
 |some c=>⟨k.n,k.ps,k.assign,k.body,some c⟩
def ej.state(k:ej)(busy:Bool):LoopState:=match k.jump with
 |none=>cond busy .busy .ready
 |some _=> .done
inductive Ob where
 |dead
 |box (T:TypeId) (cells:lXF)
 |row (T:TypeId) (S:Nat) (rows:List lXF)
 |mp (keys:List Value) (vals:lXF)
 |lp (busy:Bool) (k:ej) (ts:lXC) (cs:lXF)
 deriving Inhabited
abbrev lXE:=List Ob
def CA(w:World)(b:Nat)(cs:Array Value)(T:TypeId):Prop:= ∃fr:Nat×Nat,w.heap[b]? =some (.cells cs T fr)/\(fr=(0,0)\/fr.1=cs.size)
def CA.of_eq{w w':World}{b:Nat}{cs:Array Value}{T:TypeId}(h:CA w b cs T)(e:w'.heap[b]? =w.heap[b]?):CA w' b cs T:=by obtain⟨fr,h1,h2⟩:=h;exact⟨fr,e.trans h1,h2⟩
section
variable{w:World}{b:Nat}{cs:Array Value}{T:TypeId}
theorem CA.mS(h:w.heap[b]? =some (.cells cs T (0,0))):CA w b cs T:=⟨_,h,.inl rfl⟩
theorem CA.cell(h:CA w b cs T)(i:Nat):w.cell? ⟨b,i,none⟩=cs[i]? :=by obtain⟨fr,h1,_⟩:=h;simp[World.cell?,h1]
end
def gP(m:Mem)(γ:Gam)(w:World)(o:Nat):Ob->Prop
 | .dead=>True
 | .box T cells=> ∃b cs,γ o=some (some (b,0))/\w.heap[b]? =some (.cells cs T (0,0))/\au m γ cells cs.toList/\ ∀off,m ⟨b,off,none⟩=none
 | .row T S rows=>(γ o=some none/\rows=[])\/
   ∃b C cs,γ o=some (some (b,C))/\CA w b cs T/\cs.size=C*S/\rows.length<=C/\C<=maxLen/\(∀r∈rows,r.length=S)/\
    au m γ rows.flatten (cs.toList.take<|rows.length*S)/\ ∀off,m ⟨b,off,none⟩=none
 | .mp keys vals=> ∃b es clock,γ o=some (some (b,0))/\w.heap[b]? =some (.map es clock)/\es.toList.map (·.key)=keys/\au m γ vals (es.toList.map (·.val))/\ ∀off,m ⟨b,off,none⟩=none
 | .lp busy k ts cs=> ∃b r xs,γ o=some (some (b,0))/\w.heap[b]? =some (.loop r)/\(r.state=k.state busy/\r.pending=k.jump/\r.params=k.ps/\r.assign=k.assign/\r.body=k.body/\r.tmps.size=k.n)/\
   au m γ cs xs/\(∀(i t:Nat)(x:Value),ts[i]? =some t->xs[i]? =some x->t<k.n/\r.tmps.getD t undef=x)/\ ∀off,m ⟨b,off,none⟩=none
def live(ob:lXE)(o:Nat):Prop:= ∃X,ob[o]? =some X/\X≠ .dead
def InG(γ:Gam)(k:Nat):Prop:= ∃o C,γ o=some (some (k,C))
def lX(w:World):Prop:= ∀g cs,yV.lookup g=some cs-> ∃t fr,w.heap[g]? =some (.cells cs.toArray t fr)
def lX.of_eq{w w':World}(h:lX w)(e: ∀g cs,yV.lookup g=some cs->w'.heap[g]? =w.heap[g]?):lX w':=λg cs hg=>by obtain⟨t,fr,h1⟩:=h g cs hg;exact⟨t,fr,(e g cs hg).trans h1⟩
def lX.lt{w:World}(h:lX w){g:Nat}{cs:List Value}(hg:yV.lookup g=some cs):g<w.heap.size:=by obtain⟨t,fr,h1⟩:=h g cs hg;exact(agT.1 h1).1
theorem lX.old{w w':World}(h:lX w)(e: ∀k,k<w.heap.size->w'.heap[k]? =w.heap[k]?):lX w':=h.of_eq λ_ _ hg=>e _ (h.lt hg)
def pj{β:Type}: ∀{l:List (Nat×β)}{a:Nat}{b:β},l.lookup a=some b->(a,b)∈l
 |[],a,b,h=>by cases h
 |(k,v)::l,a,b,h=>by
  rw[List.lookup_cons]at h;cases e:a==k with
  |true=>rw[e]at h;cases h;rw[eq_of_beq e];exact ag4
  |false=>rw[e]at h;exact af9 _ (pj h)
def acY(m:Mem){b g:Nat}{cs:List Value}(hb: ∀off,m ⟨b,off,none⟩=none)(h:yV.lookup g=some cs):g≠b:=λe=>by
 subst e;have h1:=af2.1 Pr (g,cs) (pj h);cases cs with
 |nil=>cases h1
 |cons x r=>have h2:=m.has ⟨g,0,none⟩ x (by simp[qg,h]);rw[hb 0]at h2;cases h2
def lX.but{w w':World}(h:lX w)(m:Mem){b:Nat}(hb: ∀off,m ⟨b,off,none⟩=none)(e: ∀k,k<w.heap.size->k≠b->w'.heap[k]? =w.heap[k]?):lX w':=h.of_eq λ_ _ hg=>e _ (h.lt hg) (acY m hb hg)
structure Inv(m:Mem)(γ:Gam)(ob:lXE)(w:World):Prop where
 mem: ∀a x,m a=some x->w.cell? a=some x
 obj: ∀o X,ob[o]? =some X->gP m γ w o X
 sep: ∀o o' b C C',live ob o->live ob o' ->γ o=some (some (b,C))->γ o'=some (some (b,C'))->o=o'
 dom: ∀o b C,γ o=some (some (b,C))->b<w.heap.size
 len: ∀o,γ o≠none->o<ob.length
 tab:lX w
structure Trans(m:Mem)(γ:Gam)(w:World)(m':Mem)(γ':Gam)(w':World):Prop where
 mem: ∀a x,m a=some x->m' a=some x
 new: ∀a x,m' a=some x->m a=some x\/w.heap.size<=a.block\/InG γ a.block
 gam: ∀k,k<w.heap.size->InG γ' k->InG γ k
 os:w'.os=w.os
 tape:w'.tape=w.tape
 output:w'.output=w.output
 size:w.heap.size<=w'.heap.size
 blk: ∀k,k<w.heap.size-> ¬InG γ k->w'.heap[k]? =w.heap[k]?
theorem Trans.refl(m:Mem)(γ:Gam)(w:World):Trans m γ w m γ w:=⟨λ_ _ h=>h,λ_ _ h=> .inl h,λ_ _ h=>h,rfl,rfl,rfl,afG _,λ_ _ _=>rfl⟩
theorem Trans.trans{m m1 m2:Mem}{γ γ1 γ2:Gam}{w w1 w2:World}(h:Trans m γ w m1 γ1 w1)(k:Trans m1 γ1 w1 m2 γ2 w2):Trans m γ w m2 γ2 w2 where
 mem a x hx:=k.mem a x (h.mem a x hx)
 new a x hx:=by
  rcases k.new a x hx with h1|h1|h1
  ·exact h.new a x h1
  ·grind[h.size]
  ·by_cases hb:a.block<w.heap.size
   ·exact .inr (.inr<|h.gam _ hb h1)
   ·exact .inr (.inl oaa)
 gam b hb hi:=h.gam b hb (k.gam b (agz hb h.size) hi)
 os:=k.os.trans h.os
 tape:=k.tape.trans h.tape
 output:=k.output.trans h.output
 size:=agr h.size k.size
 blk b hb hn:=(k.blk b (agz hb h.size)<|λhi=>hn<|h.gam b hb hi).trans (h.blk b hb hn)
abbrev Loc:=List (Nat×AV)
def lk:Loc->Nat->Option AV
 |[],_=>none
 |(s,av)::L,t=>cond (Nat.beq s t) (some av) (lk L t)
def Sub(L L':Loc):Prop:= ∀t av,lk L t=some av->lk L' t=some av\/(av= .any/\ ∃b,lk L' t=some b)
def ED(ks:lXC):Loc->Loc
 |[]=>[]
 |(t,av)::L=>(t,cond (av.free ks) av .any)::ED ks L
def bS(m:Mem)(γ:Gam)(a:Act)(L:Loc):Prop:= ∀t av,lk L t=some av->t<a.tmps.size/\Rep m γ av (a.tmps.getD t undef)
theorem Sub.refl(L:Loc):Sub L L:=λ_ _ h=> .inl h
theorem Sub.trans{L L1 L2:Loc}(h:Sub L L1)(k:Sub L1 L2):Sub L L2:=by
 intro t av e;rcases h t av e with h1|⟨rfl,b,h1⟩
 ·exact k t av h1
 ·rcases k t b h1 with h2|⟨rfl,c,h2⟩
  ·exact .inr ⟨rfl,b,h2⟩
  ·exact .inr ⟨rfl,c,h2⟩
theorem Sub.nil(L:Loc):Sub [] L:=λt av e=>by simp[lk]at e
theorem cH(s:Nat)(av:AV)(L:Loc)(t:Nat):lk ((s,av)::L) t=if s=t then some av else lk L t:=by simp_all[lk]
theorem Sub.cons{s:Nat}{av:AV}{L L':Loc}(h:lk L' s=some av)(k:Sub L L'):Sub ((s,av)::L) L':=by
 intro t b e;rw[cH]at e;split at e
 ·simp_all
 ·exact k t b e
def bS.sub{m:Mem}{γ:Gam}{a:Act}{L L':Loc}(h:bS m γ a L')(k:Sub L L'):bS m γ a L:=λt av e=>by
 rcases k t av e with h1|⟨rfl,b,h1⟩
 ·exact h t av h1
 ·exact⟨(h t b h1).1,by simp[Rep]⟩
theorem vY(ks:lXC): ∀(L:Loc)(t:Nat),lk (ED ks L) t=(lk L t).map λav=>cond (av.free ks) av .any
 |[],t=>rfl
 |(s,av)::L,t=>by
  simp only[ED];rw[cH,cH];split
  ·rfl
  ·exact vY ks L t
section
variable{m m':Mem}{γ γ':Gam}
theorem bS.le{ks:lXC}{a:Act}{L:Loc}(h:bS m γ a L)(hle:Le m γ ks m' γ'):bS m' γ' a (ED ks L):=by
 intro t av e;rw[vY]at e;cases hl:lk L t with
 |none=>simp[hl]at e
 |some b=>rw[hl]at e;simp only[afV,afD]at e;obtain⟨h1,h2⟩:=h t b hl;grind[fj,Rep]
def bS.le_nil{a:Act}{L:Loc}(h:bS m γ a L)(hle:Le m γ [] m' γ'):bS m' γ' a L:=λt av e=>⟨(h t av e).1,fj hle av _ (AV.ei av) (h t av e).2⟩
end
def tb(t i:Nat):Bool:=Nat.beq (Nat.land (Nat.shiftRight t i) 1) 1
def bit(k:Nat):Nat:=Nat.shiftLeft 1 k
theorem ZE(a b:Nat):Nat.beq a b=decide (a=b):=by grind[afJ,agE]
theorem JL(t i:Nat):tb t i=t.testBit i:=by
 have h1:Nat.land (Nat.shiftRight t i) 1=t/2^i%2:=by simp_all[Nat.shiftRight_eq_div_pow]
 grind[tb,ZE]
theorem acZ(k i:Nat):tb (bit k) i=decide (k=i):=by rw[JL];show(1<<<k).testBit i=_;grind[Nat.one_shiftLeft]
theorem lY(a b i:Nat):tb (Nat.lor a b) i=(tb a i||tb b i):=by simp_all[JL]
theorem iA{k i:Nat}(h:tb (bit k) i=false):k≠i:=by rw[acZ]at h;simpa using h
inductive Kd where
 |pure
 |read
 |write
 |st (o:Nat) (old new:Ob)
 |rd (o:Nat) (old:Ob)
 |from(k:Nat)
 |chg (t:Nat)
 |yl (t:Nat)
def Kd.isYl:Kd->Bool
 | .yl _=>true
 |_=>false
structure Rec where
 dst:Option Nat
 us:Loc
 r:AV
 ks:lXC
 kind:Kd
def vZ(ks:lXC)(L:Loc):Loc:=match ks with
 |[]=>L
 |k::ks=>ED (k::ks) L
def cN(L:Loc)(dst:Option Nat)(r:AV)(ks:lXC):Loc:=
 match dst with
 |some d=>(d,r)::vZ ks L
 |none=>vZ ks L
def upd(L:Loc)(rc:Rec):Loc:=cN L rc.dst rc.r rc.ks
def dx(ro:Option Nat):Fence:={fn:=λ_=>True,depth:=none,alive:=false,round:=ro}
def fencedR(P:Program)(ro:Option Nat)(m:Machine):m.fenced P (dx ro):=by
 intro g _;refine⟨λh=> ?_,Or.inl trivial,λ_ _=>trivial,λ_ h=> ?_⟩
 ·cases h
 ·cases h
def roomR(ro:Option Nat)(n:Nat):(dx ro).room n:=λ_ h=>by cases h
theorem wa(P:Program)(ro:Option Nat):Machine.fenced P (dx ro)=Machine.fenced P Fence.wide:=by rfl
section
variable{ro:Option Nat}{n:Nat}{P:Program}
theorem wb{f:FuncId}{args:Array Value}{w:World}{R:Ending->World->Prop}:CallsIn (dx ro) n P f args w R↔Calls P f args w R:=by rw[<-callsIn_wide (n:=n)];rfl
theorem ZF{row:String}{args:Array Value}{w:World}{R:Value->World->Prop}:Rows P row args w R->RowsIn (dx ro) n P row args w R:=by intro h c cs _;rw[wa];obtain⟨v,w',r,s⟩:=h c cs;exact⟨v,w',r,stepsIn_wide.2 s⟩
end
def Ps{ro ro':Option Nat}{n:Nat}{P:Program}{l:Nat}{f:FuncId}{tmps:Array Value}{assign body:Code}{w:World}{R:Ending->World->Prop}(h:RoundIn (dx ro) n P l f tmps assign body w R):RoundIn (dx ro') n P l f tmps assign body w R:=by unfold RoundIn at h⊢;rw[wa]at h⊢;exact⟨trivial,λc cs _=>h.2 c cs (roomR _ _)⟩
def Oper.still(o:Oper):Bool:=match o.op with
 | .defer _=>false
 |_=>true
theorem pk{ro:Option Nat}{n:Nat}{P:Program}{o:Oper}{a:Act}{w:World}{K:Act->World->Prop}{Q:Exit->Act->World->Prop}(hd:ro=none\/Oper.still o=true)(h:o.wp P a w K Q):o.wpIn (dx ro) n P a w K Q:=by
 refine⟨λ_ _=>trivial,?_⟩;have hs:Oper.semAt (dx ro).round a.eval o=execOp a.eval o:=by
  rcases hd with rfl|hd
  ·rfl
  grind[Oper.semAt_eq,Oper.still]
 rw[hs];unfold Oper.wp at h;generalize(execOp a.eval o).run P w=r at h;cases r with
 |ok x w'=>
  cases x<;>simp only[Oper.upon]at h<;>simp only[Oper.uponIn]<;>first
   |exact h
   |exact⟨λe=>oao,wb.2 h⟩
   |exact⟨λe=>oao,ZF h⟩
   |exact h.elim
 |halt x w'=>cases x<;>simp only[Oper.upon]at h<;>simp only[Oper.uponIn]<;>first|exact h|exact h.elim
def GStep(P:Program)(ops:Array Oper)(o:Oper)(rc:Rec)(ob ob':lXE):Prop:=
 ∀(m:Mem)(γ:Gam)(w:World)(a:Act)(K:Act->World->Prop)(Q:Exit->Act->World->Prop),Inv m γ ob w->bS m γ a rc.us->
  (∀m' γ' w' x,Trans m γ w m' γ' w' ->Le m γ rc.ks m' γ' ->Inv m' γ' ob' w' ->Rep m' γ' rc.r x->K (a.put o.dst x) w')->
  if Region.wanted o (yielded ops a.tmps)then o.wp P a w K Q\/(rc.kind.isYl=true/\ ∀ro,o.wpIn (dx ro) 0 P a w K Q)else K (a.put o.dst undef) w
def kV(G:Oper->Rec->lXE->lXE->Prop)(o:Oper)(rc:Rec)(ob ob':lXE):Prop:=
 match rc.kind with
 | .pure=>ob'=ob/\rc.ks=[]/\ ∀ob,G o rc ob ob
 | .read=>ob'=ob/\rc.ks=[]/\G o rc ob ob
 | .write=>G o rc ob ob'
 | .st k old new=>ob[k]? =some old/\ob'=ob.set k new/\ ∀ob,ob[k]? =some old->G o rc ob (ob.set k new)
 | .rd k old=>ob[k]? =some old/\ob'=ob/\rc.ks=[]/\ ∀ob,ob[k]? =some old->G o rc ob ob
 | .from k=>(∀i,i<k->ob'[i]? =ob[i]?)/\G o rc ob ob'
 | .chg t=>(∀i,tb t i=false->ob'[i]? =ob[i]?)/\G o rc ob ob'
 | .yl t=>(∀i,tb t i=false->ob'[i]? =ob[i]?)/\G o rc ob ob'
abbrev tJ(P:Program)(ops:Array Oper):Oper->Rec->lXE->lXE->Prop:=kV (GStep P ops)
theorem kV.step{G:Oper->Rec->lXE->lXE->Prop}{o:Oper}{rc:Rec}{ob ob':lXE}(h:kV G o rc ob ob'):G o rc ob ob':=by
 unfold kV at h;split at h
 ·obtain⟨rfl,_,h⟩:=h;exact h _
 ·obtain⟨rfl,_,h⟩:=h;exact h
 ·exact h
 ·obtain⟨h1,rfl,h2⟩:=h;exact h2 _ h1
 ·obtain⟨h1,rfl,_,h2⟩:=h;exact h2 _ h1
 ·exact h.2
 ·exact h.2
 ·exact h.2
def kV.imp{G G':Oper->Rec->lXE->lXE->Prop}{o:Oper}{rc:Rec}{ob ob':lXE}(hG: ∀ob ob',G o rc ob ob' ->G' o rc ob ob')(h:kV G o rc ob ob'):kV G' o rc ob ob':=by
 unfold kV at h⊢;generalize rc.kind=k at h⊢;cases k<;>first
  |exact⟨h.1,h.2.1,λ_=>hG _ _ (h.2.2 _)⟩
  |exact⟨h.1,h.2.1,hG _ _ h.2.2⟩
  |exact hG _ _ h
  |exact⟨h.1,h.2.1,λ_ e=>hG _ _ (h.2.2 _ e)⟩
  |exact⟨h.1,h.2.1,h.2.2.1,λ_ e=>hG _ _ (h.2.2.2 _ e)⟩
  |exact⟨h.1,hG _ _ h.2⟩
inductive EvG(G:Oper->Rec->lXE->lXE->Prop)(n:Nat):List Oper->List Rec->Loc->lXE->Loc->lXE->Prop
 |nil (L:Loc) (ob:lXE):EvG G n [] [] L ob L ob
 |cons {o:Oper} {rest:List Oper} {rc:Rec} {recs:List Rec} {L L2:Loc} {ob ob' ob2:lXE} (hus:Sub rc.us L) (hdst:rc.dst=o.dst) (hn: ∀d,o.dst=some d->d<n)
   (hst:kV G o rc ob ob') (h:EvG G n rest recs (upd L rc) ob' L2 ob2):EvG G n (o::rest) (rc::recs) L ob L2 ob2
abbrev Ev(P:Program)(n:Nat)(ops:Array Oper):List Oper->List Rec->Loc->lXE->Loc->lXE->Prop:=EvG (GStep P ops) n
section
variable(a:Act)(d:Option Nat)(x:Value)
theorem qj:(a.put d x).tmps.size=a.tmps.size:=by cases d<;>simp[Act.put]
theorem lZ:(a.put d x).defers=a.defers:=by cases d<;>simp[Act.put]
end
def l6{m m':Mem}{γ γ':Gam}{a:Act}{L:Loc}{rc:Rec}{d:Option Nat}{x:Value}(h:bS m γ a L)(hle:Le m γ rc.ks m' γ')(hd:rc.dst=d)(hn: ∀e,d=some e->e<a.tmps.size)(hx:Rep m' γ' rc.r x):bS m' γ' (a.put d x) (upd L rc):=by
 have hL:bS m' γ' a (vZ rc.ks L):=by
  cases hks:rc.ks with
  |nil=>rw[hks]at hle;exact h.le_nil hle
  |cons k ks=>rw[hks]at hle;exact h.le hle
 subst hd;unfold upd cN;cases hdd:rc.dst with
 |none=>simpa [Act.put]using hL
 |some d=>
  intro t av e;simp only at e;rw[cH]at e;have hlt:=hn d hdd;split at e
  ·simp_all[Act.put]
  ·rename_i hs;obtain⟨h1,h2⟩:=hL t av e;simp_all[Act.put]
section
variable{P:Program}{n:Nat}{ops:Array Oper}
theorem qk{ro:Option Nat}{kd:Kd}{o:Oper}{a:Act}{w:World}{K:Act->World->Prop}{Q:Exit->Act->World->Prop}(hd:ro=none\/Oper.still o=true)
  (h:if Region.wanted o (yielded ops a.tmps)then o.wp P a w K Q\/(kd.isYl=true/\ ∀ro,o.wpIn (dx ro) 0 P a w K Q)else K (a.put o.dst undef) w):
  if Region.wanted o (yielded ops a.tmps)then o.wpIn (dx ro) 0 P a w K Q else(∀f,o.about P w a.eval=some f->(dx ro).fn f)/\K (a.put o.dst undef) w:=by
 split
 ·grind[pk]
 ·rename_i hw;rw[if_neg hw]at h;exact⟨λ_ _=>trivial,h⟩
theorem Pt{l:List Oper}{recs:List Rec}{L L2:Loc}{ob ob2:lXE}(hev:Ev P n ops l recs L ob L2 ob2):∀{ro:Option Nat}{m:Mem}{γ:Gam}{w:World}{a:Act}{Q:Exit->Act->World->Prop},(ro=none\/l.all Oper.still=true)->Inv m γ ob w->bS m γ a L->a.tmps.size=n->(∀m' γ' w' a',Trans m γ w m' γ' w' ->Inv m' γ' ob2 w' ->bS m' γ' a' L2->a'.tmps.size=n->a'.defers=a.defers->(∀o g,(∀rc∈recs,rc.ks.contains o=false)->γ o=some g->γ' o=some g)->Q .normal a' w')->wpListIn (dx ro) 0 P ops Q l a w:=by
 induction hev with
 |nil L ob=>intro ro m γ w a Q _ hi hl hs hq;exact hq m γ w a (Trans.refl _ _ _) hi hl hs rfl (λ_ _ _ h=>h)
 |cons hus hdst hn hst h ih=>
  intro ro m γ w a Q hd hi hl hs hq;have hd1:ro=none\/Oper.still _=true:=hd.imp id λe=>by simp only[agZ,afv]at e;exact e.1
  have hd2:ro=none\/List.all _ Oper.still=true:=hd.imp id λe=>by simp only[agZ,afv]at e;exact e.2
  unfold wpListIn;refine qk hd1 (hst.step m γ w a _ Q hi (hl.sub hus) λm' γ' w' x ht hle hi' hx=> ?_);exact ih hd2 hi' (l6 hl hle hdst (λe he=>by rw[hs];exact hn e he) hx) (by rw[qj];exact hs)
   λm2 γ2 w2 a2 ht2 hi2 hl2 hs2 hd2 hk2=>hq m2 γ2 w2 a2 (ht.trans ht2) hi2 hl2 hs2 (hd2.trans<|lZ _ _ _)
    λo g hks hg=>hk2 o g (λrc hrc=>hks rc<|af9 _ hrc) (hle.gam o g hg<|hks _ oaf)
end
def BX(d:Option Nat)(us:Loc):Bool:=match d with
 |none=>true
 |some d=>us.all λp=> !Nat.beq p.1 d
def GZ(ks:lXC)(us:Loc):Bool:=match ks with
 |[]=>true
 |_::_=>us.all λp=>p.2.free ks
def Pu(ks:lXC)(r:AV):Bool:=match ks with
 |[]=>true
 |_::_=>r.free ks
def abz:Option Nat->Option Nat->Bool
 |some a,some b=> !Nat.beq a b
 |_,_=>true
def kindOk:Kd->Kd->Bool
 | .pure,_=>true
 |_,.pure=>true
 | .read,.read=>true
 | .read,.rd _ _=>true
 | .rd _ _,.read=>true
 | .rd _ _,.rd _ _=>true
 | .st o _ _,.st k _ _=> !Nat.beq o k
 | .st o _ _,.rd k _=> !Nat.beq o k
 | .rd o _,.st k _ _=> !Nat.beq o k
 | .from N,.rd k _=>Nat.blt k N
 | .rd k _,.from N=>Nat.blt k N
 | .chg t,.rd k _=> !tb t k
 | .rd k _,.chg t=> !tb t k
 |_,_=>false
def l7(a b:Rec):Bool:=kindOk a.kind b.kind&&BX a.dst b.us&&BX b.dst a.us&&abz a.dst b.dst&&GZ b.ks a.us&&Pu a.ks b.r
theorem jf{L:Loc}{t:Nat}{av:AV}(h:lk L t=some av):(t,av)∈L:=by
 induction L with
 |nil=>simp[lk]at h
 |cons p L ih=>grind[cH]
theorem Ar{d:Nat}{us:Loc}(h:BX (some d) us=true){t:Nat}{av:AV}(hl:lk us t=some av):t≠d:=by simp only[BX,af2]at h;have:=h _ (jf hl);intro e;subst e;simp at this
def MT{ks:lXC}{us:Loc}(h:GZ ks us=true){t:Nat}{av:AV}(hl:lk us t=some av):av.free ks=true:=by
 cases ks with
 |nil=>exact AV.ei av
 |cons k ks=>simp only[GZ,af2]at h;exact h _ (jf hl)
theorem Pv{ks:lXC}{r:AV}(h:Pu ks r=true):r.free ks=true:=by
 cases ks with
 |nil=>exact AV.ei r
 |cons k ks=>simpa [Pu]using h
theorem l8(L:Loc)(rc:Rec)(t:Nat):lk (upd L rc) t=if rc.dst=some t then some rc.r else(lk L t).map λav=>cond (av.free rc.ks) av .any:=by
 have hk:lk (vZ rc.ks L) t=(lk L t).map λav=>cond (av.free rc.ks) av .any:=by
  cases hks:rc.ks with
  |nil=>simp_all[AV.ei,vZ]
  |cons k ks=>simp only[vZ];rw[vY]
 unfold upd cN;cases hd:rc.dst with
 |none=>simpa using hk
 |some d=>simp only;rw[cH,hk];simp
def Pw{L L':Loc}(h:Sub L L')(rc:Rec):Sub (upd L rc) (upd L' rc):=by
 intro t av e;rw[l8]at e⊢;split
 ·simp_all
 ·rename_i hd;rw[if_neg hd]at e;cases hl:lk L t with
  |none=>simp[hl]at e
  |some b=>
   rw[hl]at e;simp only[afV,afD]at e;subst e;rcases h t b hl with h1|⟨rfl,c,h1⟩
   ·exact .inl (by rw[h1];rfl)
   simp_all
section
variable{P:Program}{n:Nat}{ops:Array Oper}
theorem EvG.mono{G:Oper->Rec->lXE->lXE->Prop}{l:List Oper}{recs:List Rec}{L L2:Loc}{ob ob2:lXE}(h:EvG G n l recs L ob L2 ob2): ∀{L':Loc},Sub L L' -> ∃L2',Sub L2 L2'/\EvG G n l recs L' ob L2' ob2:=by
 induction h with
 |nil L ob=>exact λ{L'} hs=>⟨L',hs,.nil _ _⟩
 | @cons o rest rc recs L L2 ob ob' ob2 hus hdst hn hst h ih=>intro L' hs;obtain⟨L2',k1,k2⟩:=ih (Pw hs rc);exact⟨L2',k1,.cons (hus.trans hs) hdst hn hst k2⟩
theorem MU{a b:Rec}{L:Loc}(hs:l7 a b=true)(hb:Sub b.us (upd L a))(ha:Sub a.us L):Sub b.us L/\Sub a.us (upd L b)/\Sub (upd (upd L a) b) (upd (upd L b) a):=by
 simp only[l7,afv]at hs;obtain⟨⟨⟨⟨⟨_,h1⟩,h2⟩,h3⟩,h4⟩,h5⟩:=hs;refine⟨λt av e=> ?_,λt av e=> ?_,λt av e=> ?_⟩
 ·have hne:a.dst≠some t:=by grind[Ar]
  rcases hb t av e with k|⟨rfl,c,k⟩
  ·rw[l8,if_neg hne]at k;cases hl:lk L t with
   |none=>simp[hl]at k
   |some c=>grind
  ·rw[l8,if_neg hne]at k;cases hl:lk L t with
   |none=>simp[hl]at k
   |some c=>exact .inr ⟨rfl,c,rfl⟩
 ·have hne:b.dst≠some t:=by grind[Ar]
  have hf:=MT h4 e;rcases ha t av e with k|⟨rfl,c,k⟩
  ·grind[l8]
  grind[l8]
 ·rw[l8,l8]at e;rw[l8,l8];by_cases hbt:b.dst=some t
  ·rw[if_pos hbt]at e;have hat:a.dst≠some t:=by intro hat;rw[hat,hbt]at h3;simp[abz]at h3
   grind[Pv]
  ·rw[if_neg hbt]at e;rw[if_neg hbt];by_cases hat:a.dst=some t
   ·grind
   ·rw[if_neg hat]at e⊢;cases hl:lk L t with
    |none=>simp[hl]at e
    |some c=>grind
theorem Px{G:Oper->Rec->lXE->lXE->Prop}{o:Oper}{rc:Rec}{post:List Oper}{rpost:List Rec}: ∀{pre:List Oper}{rpre:List Rec}{L L2:Loc}{ob ob2:lXE},pre.length=rpre.length->EvG G n (pre++o::post) (rpre++rc::rpost) L ob L2 ob2->(∀r∈rpre,l7 r rc=true)->∃ob1 L2',Sub rc.us L/\rc.dst=o.dst/\(∀d,o.dst=some d->d<n)/\kV G o rc ob ob1/\Sub L2 L2'/\EvG G n (pre++post) (rpre++rpost) (upd L rc) ob1 L2' ob2
 |[],[],L,L2,ob,ob2,_,h,_=>by
  cases h with
  |cons hus hdst hn hst h=>exact⟨_,L2,hus,hdst,hn,hst,Sub.refl _,h⟩
 |x::pre,q::rpre,L,L2,ob,ob2,hl,h,hsw=>by
  rw[agC,agC]at h;cases h with
  | @cons _ _ _ _ _ _ _ obx _ hus hdst hn hst h=>
   obtain⟨ob1,L2',k1,k2,k3,k4,k5,k6⟩:=Px oaL h (λr hr=>hsw r<|af9 _ hr);have hok:=hsw q oaf;obtain⟨s1,s2,s3⟩:=MU hok k1 hus;obtain⟨L2'',j1,j2⟩:=k6.mono s3;have hkind:kindOk q.kind rc.kind=true:=by have hk:=hok;simp only[l7,afv]at hk;exact hk.1.1.1.1.1
   have key: ∃ob',kV G o rc ob ob'/\kV G x q ob' ob1:=by
    unfold kV at hst k4⊢;cases hq:q.kind<;>cases hr:rc.kind<;>rw[hq,hr]at hkind<;>rw[hq]at hst<;>rw[hr]at k4<;>simp only[kindOk,afP,reduceCtorEq]at hkind<;>simp only at hst k4⊢
    case pure.pure=>obtain⟨rfl,a1,a2⟩:=hst;obtain⟨rfl,b1,b2⟩:=k4;exact⟨_,⟨rfl,b1,b2⟩,rfl,a1,a2⟩
    case pure.read=>obtain⟨rfl,a1,a2⟩:=hst;obtain⟨rfl,b1,b2⟩:=k4;exact⟨_,⟨rfl,b1,b2⟩,rfl,a1,a2⟩
    case pure.write=>obtain⟨rfl,a1,a2⟩:=hst;exact⟨_,k4,rfl,a1,a2⟩
    case pure.st=>obtain⟨rfl,a1,a2⟩:=hst;obtain⟨b1,rfl,b2⟩:=k4;exact⟨_,⟨b1,rfl,b2⟩,rfl,a1,a2⟩
    case pure.rd=>obtain⟨rfl,a1,a2⟩:=hst;obtain⟨b1,rfl,b2,b3⟩:=k4;exact⟨_,⟨b1,rfl,b2,b3⟩,rfl,a1,a2⟩
    case read.pure=>obtain⟨rfl,a1,a2⟩:=hst;obtain⟨rfl,b1,b2⟩:=k4;exact⟨_,⟨rfl,b1,b2⟩,rfl,a1,a2⟩
    case read.read=>obtain⟨rfl,a1,a2⟩:=hst;obtain⟨rfl,b1,b2⟩:=k4;exact⟨_,⟨rfl,b1,b2⟩,rfl,a1,a2⟩
    case read.rd=>obtain⟨rfl,a1,a2⟩:=hst;obtain⟨b1,rfl,b2,b3⟩:=k4;exact⟨_,⟨b1,rfl,b2,b3⟩,rfl,a1,a2⟩
    case write.pure=>obtain⟨rfl,b1,b2⟩:=k4;exact⟨_,⟨rfl,b1,b2⟩,hst⟩
    case pure.from=>obtain⟨rfl,a1,a2⟩:=hst;exact⟨_,k4,rfl,a1,a2⟩
    case from.pure=>obtain⟨rfl,b1,b2⟩:=k4;exact⟨_,⟨rfl,b1,b2⟩,hst⟩
    case pure.chg=>obtain⟨rfl,a1,a2⟩:=hst;exact⟨_,k4,rfl,a1,a2⟩
    case chg.pure=>obtain⟨rfl,b1,b2⟩:=k4;exact⟨_,⟨rfl,b1,b2⟩,hst⟩
    case chg.rd t k old=>
     have hlt:tb t k=false:=by simpa using hkind
     obtain⟨a1,a3⟩:=hst;obtain⟨b1,rfl,b2,b3⟩:=k4;exact⟨_,⟨(a1 k hlt).symm.trans b1,rfl,b2,b3⟩,a1,a3⟩
    case rd.chg k old t=>
     have hlt:tb t k=false:=by simpa using hkind
     obtain⟨a1,rfl,a2,a3⟩:=hst;obtain⟨b1,b3⟩:=k4;exact⟨_,⟨b1,b3⟩,(b1 k hlt).trans a1,rfl,a2,a3⟩
    case pure.yl=>obtain⟨rfl,a1,a2⟩:=hst;exact⟨_,k4,rfl,a1,a2⟩
    case yl.pure=>obtain⟨rfl,b1,b2⟩:=k4;exact⟨_,⟨rfl,b1,b2⟩,hst⟩
    case from.rd N k old=>
     have hlt:k<N:=by simp[Nat.blt]at hkind;omega
     obtain⟨a1,a3⟩:=hst;obtain⟨b1,rfl,b2,b3⟩:=k4;exact⟨_,⟨(a1 k hlt).symm.trans b1,rfl,b2,b3⟩,a1,a3⟩
    case rd.from k old N=>
     have hlt:k<N:=by simp[Nat.blt]at hkind;omega
     obtain⟨a1,rfl,a2,a3⟩:=hst;obtain⟨b1,b3⟩:=k4;exact⟨_,⟨b1,b3⟩,(b1 k hlt).trans a1,rfl,a2,a3⟩
    case st.pure=>obtain⟨rfl,b1,b2⟩:=k4;exact⟨_,⟨rfl,b1,b2⟩,hst⟩
    case rd.pure=>obtain⟨rfl,b1,b2⟩:=k4;exact⟨_,⟨rfl,b1,b2⟩,hst⟩
    case rd.read=>obtain⟨a1,rfl,a2,a3⟩:=hst;obtain⟨rfl,b1,b2⟩:=k4;exact⟨_,⟨rfl,b1,b2⟩,a1,rfl,a2,a3⟩
    case rd.rd=>obtain⟨a1,rfl,a2,a3⟩:=hst;obtain⟨b1,rfl,b2,b3⟩:=k4;exact⟨_,⟨b1,rfl,b2,b3⟩,a1,rfl,a2,a3⟩
    case st.st ka oa na kb ob' nb=>
     have hne:ka≠kb:=λe=>by subst e;simp at hkind
     obtain⟨a1,rfl,a3⟩:=hst;obtain⟨b1,rfl,b3⟩:=k4;rw[af1 hne]at b1;exact⟨_,⟨b1,rfl,b3⟩,by rw[af1 (λe=>hne e.symm)];exact a1,List.set_comm _ _ hne,a3⟩
    case st.rd ka oa na kb ob'=>
     have hne:ka≠kb:=λe=>by subst e;simp at hkind
     obtain⟨a1,rfl,a3⟩:=hst;obtain⟨b1,rfl,b2,b3⟩:=k4;rw[af1 hne]at b1;exact⟨_,⟨b1,rfl,b2,b3⟩,a1,rfl,a3⟩
    case rd.st ka oa kb ob' nb=>
     have hne:ka≠kb:=λe=>by subst e;simp at hkind
     obtain⟨a1,rfl,a2,a3⟩:=hst;obtain⟨b1,rfl,b3⟩:=k4;exact⟨_,⟨b1,rfl,b3⟩,by rw[af1 (λe=>hne e.symm)];exact a1,rfl,a2,a3⟩
   obtain⟨ob',g1,g2⟩:=key;exact⟨ob',L2'',s1,k2,k3,g1,k5.trans j1,.cons s2 hdst hn g2 j2⟩
end
def kW(acc:lXC):List Edge->Nat
 |[]=>0
 |e::es=>cond (Region.binds .any e) ((2^e.on|||acc.getD e.on 0)|||kW acc es) (kW acc es)
def gg:List Oper->lXC->lXC
 |[],acc=>acc
 |o::l,acc=>gg l (acc++ [kW acc o.after.toList])
def kX:Nat->List Oper->Bool
 |_,[]=>true
 |k,o::l=>(o.after.toList.all λe=> !Region.binds .any e||Nat.blt e.on k)&&kX (k+1) l
def qn(bits:lXC)(j:Nat)(rj:Rec):Nat->List Rec->Bool
 |_,[]=>true
 |i,ri::rs=>((bits.getD j 0).testBit i||l7 ri rj)&&qn bits j rj (i+1) rs
def vw(bits:lXC):List Rec->Nat->List Rec->Bool
 |_,_,[]=>true
 |before,j,rj::rs=>qn bits j rj 0 before&&vw bits (before++ [rj]) (j+1) rs
def pn(l:List Oper)(recs:List Rec):Bool:=kX 0 l&&vw (gg l []) [] 0 recs
def kK{acc:lXC}{listed:Array Bool}{p:Nat}: ∀{es:List Edge},(kW acc es).testBit p=true->(∀e∈es,Region.binds .any e=true->listed.getD e.on false=true/\((acc.getD e.on 0).testBit p=true->listed.getD p false=true))->listed.getD p false=true
 |[],h,_=>by simp[kW]at h
 |e::es,h,hl=>by
  simp only[kW]at h;cases hb:Region.binds .any e with
  |false=>rw[hb]at h;exact kK oaN (λf hf=>hl f<|af9 _ hf)
  |true=>
   rw[hb]at h;simp only[afN,Nat.testBit_or,agX]at h;obtain⟨h1,h2⟩:=hl e oaf hb;rcases h with(h|h)|h
   ·grind
   ·exact h2 h
   ·exact kK h (λf hf=>hl f<|af9 _ hf)
def oQ{listed:Array Bool}(ops:List Oper)(closed: ∀(i:Nat)(o:Oper),ops[i]? =some o->listed.getD i false=true-> ∀e∈o.after.toList,Region.binds .any e=true->listed.getD e.on false=true):∀(l:List Oper)(acc:lXC),(∀j,l[j]? =ops[acc.length+j]?)->(∀q o,q<acc.length->ops[q]? =some o->(∀e∈o.after.toList,Region.binds .any e=true->listed.getD e.on false=true)-> ∀p,(acc.getD q 0).testBit p=true->listed.getD p false=true)->(∀q o,q<(gg l acc).length->ops[q]? =some o->(∀e∈o.after.toList,Region.binds .any e=true->listed.getD e.on false=true)-> ∀p,((gg l acc).getD q 0).testBit p=true->listed.getD p false=true)
 |[],acc,_,h=>h
 |o::l,acc,hl,h=>by
  refine oQ ops closed l _ (λj=> ?_) ?_
  ·have:=hl (j+1);simp only[agY]at this;rw[this];congr 1;simp only[afS,afX,af6];omega
  ·intro q o' hq ho' hall p hp;by_cases hqa:q<acc.length
   ·refine h q o' hqa ho' hall p ?_;rw[agq,afO hqa]at hp;rw[agq];exact hp
   ·have hqe:q=acc.length:=by simp at hq;omega
    subst hqe;have ho:o'=o:=by have:=hl 0;simp only[Nat.add_zero,agM]at this;rw[ho']at this;cases this;rfl
    subst ho;rw[agq,agb (afG _)]at hp;simp only[Nat.sub_self,agM,Option.getD_some]at hp;refine kK hp λe he hb=>⟨hall e he hb,λhbit=> ?_⟩;by_cases hea:e.on<acc.length
    ·cases hoe:ops[e.on]? with
     |none=>exfalso;have h1:ops.length<=e.on:=List.getElem?_eq_none_iff.1 hoe;have h2:acc.length<ops.length:=(afF.1 ho').1;omega
     |some oe=>exact h e.on oe hea hoe (λf hf hbf=>closed e.on oe hoe (hall e he hb) f hf hbf) p hbit
    ·rw[agq,List.getElem?_eq_none_iff.2 oaa]at hbit;simp at hbit
def oR{bits:lXC}{j:Nat}{rj:Rec}: ∀{i:Nat}{rs:List Rec},qn bits j rj i rs=true-> ∀p r,rs[p]? =some r->(bits.getD j 0).testBit (i+p)=true\/l7 r rj=true
 |_,[],_,p,r,h=>by simp at h
 |i,ri::rs,h,p,r,hp=>by
  simp only[qn,afv,agX]at h;cases p with
  |zero=>simp at hp;subst hp;simpa using h.1
  |succ p=>have:=oR h.2 p r (by simpa using hp);grind
def qo{bits:lXC}: ∀{before:List Rec}{j:Nat}{rs:List Rec},before.length=j->vw bits before j rs=true->∀q r,rs[q]? =some r-> ∀p s,p<j+q->(before++rs)[p]? =some s->(bits.getD (j+q) 0).testBit p=true\/l7 s r=true
 |_,_,[],_,_,q,r,h=>by simp at h
 |before,j,rj::rs,hlen,h,q,r,hq=>by
  simp only[vw,afv]at h;intro p s hp hs;cases q with
  |zero=>simp at hq;subst hq;rw[afO oaa]at hs;simpa using oR h.1 p s hs
  |succ q=>have:=qo (before:=before++ [rj]) (j:=j+1) (by simp[hlen]) h.2 q r (by simpa using hq) p s oaa (by simpa using hs);grind
def mT: ∀{l:List Oper}{k:Nat},kX k l=true-> ∀j o,l[j]? =some o-> ∀e∈o.after.toList,Region.binds .any e=true->e.on<k+j
 |[],_,_,j,o,h=>by simp at h
 |x::l,k,h,j,o,hj=>by
  simp only[kX,afv,af2,agX,afP]at h;cases j with
  |zero=>
   simp at hj;subst hj;intro e he hb;rcases h.1 e he with h1|h1
   ·rw[h1]at hb;cases hb
   ·simp[Nat.blt]at h1;omega
  |succ j=>intro e he hb;have:=mT h.2 j o (by simpa using hj) e he hb;omega
section
variable{P:Program}{n:Nat}{ops:Array Oper}
def po(k:Nat)(f:Nat->Bool):((range k).filter f).Nodup:=List.Pairwise.filter f List.nodup_range
theorem MV{ro:Option Nat}{G:Oper->Rec->lXE->lXE->Prop}{R:Mem->Gam->World->Act->Prop}{B:Nat->Prop}{Q:Exit->Act->World->Prop}
  (hG: ∀{i:Nat}{o:Oper}{rc:Rec}{ob ob':lXE}{m:Mem}{γ:Gam}{w:World}{a:Act}{K:Act->World->Prop},ops[i]? =some o->R m γ w a->G o rc ob ob' ->Inv m γ ob w->bS m γ a rc.us->
   (¬B i-> ∀m' γ' w' x,Trans m γ w m' γ' w' ->Le m γ rc.ks m' γ' ->Inv m' γ' ob' w' ->Rep m' γ' rc.r x->K (a.put o.dst x) w')->if Region.wanted o (yielded ops a.tmps)then o.wpIn (dx ro) 0 P a w K Q else(∀f,o.about P w a.eval=some f->(dx ro).fn f)/\K (a.put o.dst undef) w) (bits:lXC) (hback:kX 0 ops.toList=true) (hbits:bits=gg ops.toList []) (rec:Nat->Rec)
  (hR: ∀{i:Nat}{o:Oper}{m:Mem}{γ:Gam}{w:World}{a:Act}{m':Mem}{γ':Gam}{w':World}{x:Value},ops[i]? =some o->R m γ w a->Trans m γ w m' γ' w' ->Le m γ (rec i).ks m' γ' ->R m' γ' w' (a.put o.dst x))
  (hpairs: ∀p q,p<q->q<ops.size->(bits.getD q 0).testBit p=true\/l7 (rec p) (rec q)=true):
  ∀(fuel:Nat)(listed:Array Bool)(rem:lXC)(L L2:Loc)(ob ob2:lXE),rem.length=fuel->listed.size=ops.size->rem=(range ops.size).filter (λi=> !listed.getD i true)->
  (∀(i:Nat)(o:Oper),ops.toList[i]? =some o->listed.getD i false=true-> ∀e∈o.after.toList,Region.binds .any e=true->listed.getD e.on false=true)->
  EvG G n (rem.map λi=>ops.getD i default) (rem.map rec) L ob L2 ob2->
  ∀(m:Mem)(γ:Gam)(w:World)(a:Act),R m γ w a->Inv m γ ob w->bS m γ a L->a.tmps.size=n->
  ((∀i∈rem,¬B i)-> ∀m' γ' w' a',Trans m γ w m' γ' w' ->Inv m' γ' ob2 w' ->bS m' γ' a' L2->a'.tmps.size=n->a'.defers=a.defers->(∀o g,(∀i∈rem,(rec i).ks.contains o=false)->γ o=some g->γ' o=some g)->Q .normal a' w')->wpAnyIn (dx ro) 0 P .any ops Q fuel listed a w:=by
 intro fuel;induction fuel with
 |zero=>
  intro listed rem L L2 ob ob2 hlen hsz hrem hcl hev m γ w a hr hi hl hs hq;have:rem=[]:=agk hlen;subst this;simp only[agA]at hev;cases hev;refine⟨?_,hq (λ_ h=>by simp at h) m γ w a (Trans.refl _ _ _) hi hl hs rfl (λ_ _ _ h=>h)⟩;have h0: ∀i,i<ops.size->listed.getD i true=true:=by
   intro i hlt;have:i∉(range ops.size).filter (λi=> !listed.getD i true):=by rw[<-hrem];simp
   simpa [hlt]using this
  simp only[Region.ready,List.filter_eq_nil_iff];intro i hir;rw[h0 i (by simpa using hir)];simp
 |succ fuel ih=>
  intro listed rem L L2 ob ob2 hlen hsz hrem hcl hev m γ w a hr hi hl hs hq;have hmem: ∀i,i∈rem↔i<ops.size/\listed.getD i true=false:=by intro i;rw[hrem];simp
  have hnd:rem.Nodup:=by rw[hrem];exact po _ _
  have hsorted:rem.Pairwise (·< ·):=by rw[hrem];exact List.Pairwise.filter _ List.pairwise_lt_range
  have hgetD: ∀i,i<ops.size->listed.getD i true=listed.getD i false:=by intro i hlt;simp[af4,agF (show i<listed.size by omega)]
  have hedge: ∀i o,ops[i]? =some o-> ∀e∈o.after.toList,Region.binds .any e=true->e.on<i:=by intro i o ho e he hb;have:=mT hback i o (by simpa using ho) e he hb;omega
  refine⟨λhnone=> ?_,λi hir=> ?_⟩
  ·exfalso
   match hrm:rem with
   |[]=>simp at hlen
   |i::rest=>
    have hi0:=(hmem i).1 oaf;obtain⟨o,ho⟩: ∃o,ops[i]? =some o:=⟨ops[i]'hi0.1,agF hi0.1⟩;have hin:i∈Region.ready .any ops listed:=by
     simp only[Region.ready,List.mem_filter,ahd,afv,afP];refine⟨hi0.1,hi0.2,?_⟩;simp only[ho,afV,Option.getD_some,Array.all_eq_true',agX,afP];intro e he;cases hb:Region.binds .any e with
     |false=>exact .inl rfl
     |true=>
      right;have hlt:=hedge i o ho e (by simpa using he) hb;rw[<-hgetD e.on oaa];cases hle:listed.getD e.on true with
      |true=>rfl
      |false=>
       have:e.on∈i::rest:=(hmem e.on).2 ⟨by omega,hle⟩;simp only[agc]at this;rcases this with h1|h1
       ·omega
       ·have:=(List.pairwise_cons.1 hsorted).1 _ h1;omega
    rw[hnone]at hin;cases hin
  ·simp only[Region.ready,List.mem_filter,ahd,afv,afP]at hir;obtain⟨hlt,hunl,hready⟩:=hir;have hin:i∈rem:=(hmem i).2 ⟨hlt,hunl⟩;obtain⟨pre,post,hsplit⟩:=List.append_of_mem hin;obtain⟨o,ho⟩: ∃o,ops[i]? =some o:=⟨ops[i]'hlt,agF hlt⟩;have hod:ops.getD i default=o:=by simp[af4,ho]
   have hall: ∀e∈o.after.toList,Region.binds .any e=true->listed.getD e.on false=true:=by
    simp only[ho,afV,Option.getD_some,Array.all_eq_true',agX,afP]at hready;intro e he hb;rcases hready e (by simpa using he)with h1|h1
    ·rw[hb]at h1;cases h1
    ·exact h1
   have hpre: ∀p∈pre,p<i/\listed.getD p true=false:=by
    intro p hp;have h1:p∈rem:=by rw[hsplit];simp[hp]
    refine⟨?_,((hmem p).1 h1).2⟩;rw[hsplit]at hsorted;exact(List.pairwise_append.1 hsorted).2.2 p hp i oaf
   have hswap: ∀r∈pre.map rec,l7 r (rec i)=true:=by
    intro r hr;obtain⟨p,hp,rfl⟩:=agl.1 hr;obtain⟨hpi,hpu⟩:=hpre p hp;rcases hpairs p i hpi hlt with h1|h1
    ·exfalso;subst hbits;have hlenb:i<(gg ops.toList []).length:=by
      have: ∀(l:List Oper)(acc:lXC),(gg l acc).length=acc.length+l.length:=by
       intro l;induction l with
       |nil=>intro acc;simp[gg]
       |cons o l ihl=>intro acc;simp only[gg];rw[ihl];simp;omega
      rw[this];simpa using hlt
     have:=oQ (listed:=listed) ops.toList hcl ops.toList [] (λj=>by simp) (λq o hq=>by simp at hq) i o hlenb (by simpa using ho) hall p h1;rw[<-hgetD p oaa]at this;rw[this]at hpu;cases hpu
    ·exact h1
   rw[hsplit]at hev;simp only[ag7,afZ,hod]at hev;obtain⟨ob1,L2',k1,k2,k3,k4,k5,k6⟩:=Px oaf hev hswap;unfold wpOpIn;simp only[ho];refine hG ho hr k4.step hi (hl.sub k1) λhB m' γ' w' x ht hle hi' hx=> ?_;have hrem':pre++post=(range ops.size).filter (λj=> !(listed.setIfInBounds i true).getD j true):=by
    have e1:(range ops.size).filter (λj=> !(listed.setIfInBounds i true).getD j true)=((range ops.size).filter<|λj=> !listed.getD j true).filter (λj=>j !=i):=by
     rw[List.filter_filter];refine List.filter_congr λj hj=> ?_;have hjl:j<ops.size:=by simpa using hj
     by_cases hji:j=i
     ·subst hji;simp[af4,Array.getElem?_setIfInBounds_self_of_lt (show j<listed.size by omega)]
     ·rw[af4,Array.getElem?_setIfInBounds_ne (λe=>hji e.symm),<-af4];simp[hji]
    rw[e1,<-hrem,hsplit];rw[hsplit]at hnd;have hnd':=List.nodup_append.1 hnd;have hp1: ∀j∈pre,(j !=i)=true:=λj hj=>by have:=hnd'.2.2 j hj i oaf;simpa using this
    have hp2: ∀j∈post,(j !=i)=true:=λj hj=>by have:=(ahe.1 hnd'.2.1).1;simp only[bne_iff_ne,ne_eq];intro e;subst e;exact this hj
    rw[List.filter_append,List.filter_eq_self.2 hp1,List.filter_cons];simp only[bne_self_eq_false,Bool.false_eq_true,if_false];rw[List.filter_eq_self.2 hp2]
   refine ih (listed.setIfInBounds i true) (pre++post) (upd L<|rec i) L2' ob1 ob2 ?_ (by simpa using hsz) hrem' ?_ ?_ m' γ' w' _ (hR ho hr ht hle) hi' (l6 hl hle k2 (λe he=>by rw[hs];exact k3 e he) hx) (by rw[qj];exact hs)
    λhBr m2 γ2 w2 a2 ht2 hi2 hl2 hs2 hd2 hk2=>hq (λj hj=>by
      rw[hsplit]at hj;rcases agn.1 hj with h|h
      ·exact hBr j (agn.2<|.inl h)
      ·rcases agc.1 h with rfl|h
       ·exact hB
       ·exact hBr j (agn.2<|.inr h)) m2 γ2 w2 a2 (ht.trans ht2) hi2 (hl2.sub k5) hs2 (hd2.trans<|lZ _ _ _)
     λo g hks hg=>hk2 o g (λj hj=>hks j<|by rw[hsplit];simp only[agn,agc]at hj⊢;exact hj.imp id .inr) (hle.gam o g hg<|hks i<|by rw[hsplit];simp)
   ·have:=afQ length hsplit;simp only[afS,afX]at this⊢;omega
   ·intro j oj hoj hlj e he hb;have hjl:j<ops.size:=by have:=(afF.1 hoj).1;simpa using this
    have hset: ∀q,q<ops.size->listed.getD q false=true->(listed.setIfInBounds i true).getD q false=true:=by
     intro q hq hlq;by_cases hqi:q=i
     ·subst hqi;simp[af4,Array.getElem?_setIfInBounds_self_of_lt (show q<listed.size by omega)]
     ·rw[af4,Array.getElem?_setIfInBounds_ne (λe=>hqi e.symm),<-af4];exact hlq
    by_cases hji:j=i
    ·subst hji;have:oj=o:=by
      have h1:ops[j]? =some oj:=by simpa using hoj
      rw[ho]at h1;cases h1;rfl
     subst this;exact hset _ (by have:=hedge j oj ho e he hb;omega) (hall e he hb)
    ·rw[af4,Array.getElem?_setIfInBounds_ne (λe=>hji e.symm),<-af4]at hlj;exact hset _ (by have:=hedge j oj (by simpa using hoj) e he hb;omega) (hcl j oj hoj hlj e he hb)
   ·simpa using k6
section
variable{id:Nat}{l:List Oper}{recs:List Rec}{L L2:Loc}{ob ob2:lXE}
theorem tK{G:Oper->Rec->lXE->lXE->Prop}{R:Mem->Gam->World->Act->Prop}{B:Nat->Prop}{Q:Exit->Act->World->Prop}(hm:P.follows .mixedOrders=true){ro:Option Nat}
  (hG: ∀{i:Nat}{o:Oper}{rc:Rec}{ob ob':lXE}{m:Mem}{γ:Gam}{w:World}{a:Act}{K:Act->World->Prop},l.toArray[i]? =some o->R m γ w a->G o rc ob ob' ->Inv m γ ob w->bS m γ a rc.us->
   (¬B i-> ∀m' γ' w' x,Trans m γ w m' γ' w' ->Le m γ rc.ks m' γ' ->Inv m' γ' ob' w' ->Rep m' γ' rc.r x->K (a.put o.dst x) w')->if Region.wanted o (yielded l.toArray a.tmps)then o.wpIn (dx ro) 0 P a w K Q else(∀f,o.about P w a.eval=some f->(dx ro).fn f)/\K (a.put o.dst undef) w)
  (hR: ∀{i:Nat}{o:Oper}{m:Mem}{γ:Gam}{w:World}{a:Act}{m':Mem}{γ':Gam}{w':World}{x:Value},l.toArray[i]? =some o->R m γ w a->Trans m γ w m' γ' w' ->Le m γ (recs.getD i ⟨none,[],.any,[],.pure⟩).ks m' γ' ->R m' γ' w' (a.put o.dst x))
  (hev:EvG G n l recs L ob L2 ob2)
  (hok:pn l recs=true) {m:Mem} {γ:Gam} {w:World} {a:Act} (hr0:R m γ {w with drawn:=w.drawn+1} a) (hi:Inv m γ ob w) (hl:bS m γ a L) (hs:a.tmps.size=n)
  (hq:(∀i,i<l.length-> ¬B i)-> ∀m' γ' w' a',Trans m γ w m' γ' w' ->Inv m' γ' ob2 w' ->bS m' γ' a' L2->a'.tmps.size=n->a'.defers=a.defers->(∀o g,(∀rc∈recs,rc.ks.contains o=false)->γ o=some g->γ' o=some g)->Q .normal a' w'):(Code.region id l.toArray true).wpIn (dx ro) 0 P Q a w:=by
 have hlen: ∀{l:List Oper}{recs:List Rec}{L L2:Loc}{ob ob2:lXE}{G:Oper->Rec->lXE->lXE->Prop},EvG G n l recs L ob L2 ob2->recs.length=l.length:=by
  intro l recs L L2 ob ob2 G h;induction h with
  |nil=>rfl
  |cons _ _ _ _ _ ih=>simp[ih]
 have hln:=hlen hev;simp only[pn,afv]at hok;refine wpIn_region_any hm ?_;have hiw:Inv m γ ob {w with drawn:=w.drawn+1}:=by refine⟨hi.mem,λo X hX=> ?_,hi.sep,hi.dom,hi.len,hi.tab⟩;have:=hi.obj o X hX;cases X<;>exact this
 have hmap1:(range l.length).map (λi=>l.toArray.getD i default)=l:=by
  apply af8;intro i;rw[afM];by_cases hi':i<l.length
  ·simp[hi',af4]
  ·simp[hi']
 have hmap2:(range l.length).map (λi=>recs.getD i ⟨none,[],.any,[],.pure⟩)=recs:=by
  apply af8;intro i;rw[afM];by_cases hi':i<l.length
  ·simp[hi',agq,show i<recs.length by omega]
  ·simp[hi',show recs.length<=i by omega]
 have hfil:(range l.toArray.size).filter (λi=> !(Array.replicate l.toArray.size false).getD i true)=range l.length:=by
  simp only[ag8];refine List.filter_eq_self.2 λi hi'=> ?_;have:i<l.length:=by simpa using hi'
  simp[af4,this]
 refine MV (G:=G) (R:=R) (B:=B) hG (gg l []) (by simpa using hok.1) oaf (λi=>recs.getD i ⟨none,[],.any,[],.pure⟩) hR ?_ l.toArray.size _ (range l.length) L L2 ob ob2 oaf oaf hfil.symm ?_ ?_ m γ _ a hr0 hiw hl hs
  λhBr m' γ' w' a' ht hi2 hl2 hs2 hd2 hk2=>hq (λi hi4=>hBr i<|ahd.2 hi4) m' γ' w' a' ((⟨λ_ _ h=>h,λ_ _ h=> .inl h,λ_ _ h=>h,rfl,rfl,rfl,afG _,λ_ _ _=>rfl⟩:Trans m γ w m γ {w with drawn:=w.drawn+1}).trans ht) hi2 hl2 hs2 hd2 λo g hks hg=>hk2 o g (λi hi3=>hks _ (by
   have:i<l.length:=by simpa using hi3
   rw[agq,afR (show i<recs.length by omega)];simp)) hg
 ·intro p q hpq hq';have hq2:q<recs.length:=by simpa [hln]using hq'
  have:=qo (before:=[]) (j:=0) rfl hok.2 q (recs[q]) (afR hq2) p (recs[p]'oaa) oaa (by simp[show p<recs.length by omega]);simpa [agq,hq2,show p<recs.length by omega]using this
 ·intro i o ho hl';simp only[ag8,af4]at hl';exfalso;by_cases h:i<l.length
  ·simp[h]at hl'
  ·simp[h]at hl'
 ·rw[hmap1,hmap2];exact hev
theorem G0{Q:Exit->Act->World->Prop}(hm:P.follows .mixedOrders=true){ro:Option Nat}(hd:ro=none\/l.all Oper.still=true)(hev:Ev P n l.toArray l recs L ob L2 ob2)(hok:pn l recs=true){m:Mem}{γ:Gam}{w:World}{a:Act}(hi:Inv m γ ob w)(hl:bS m γ a L)(hs:a.tmps.size=n)(hq: ∀m' γ' w' a',Trans m γ w m' γ' w' ->Inv m' γ' ob2 w' ->bS m' γ' a' L2->a'.tmps.size=n->a'.defers=a.defers->(∀o g,(∀rc∈recs,rc.ks.contains o=false)->γ o=some g->γ' o=some g)->Q .normal a' w'):(Code.region id l.toArray true).wpIn (dx ro) 0 P Q a w:=tK (R:=λ_ _ _ _=>True) (B:=λ_=>False) hm (λ{i o rc ob ob' m γ w a K} ho _ h hi hl hk=>qk (hd.imp (λh=>h) λe=>af2.1 e o<|by have:=Array.mem_of_getElem? ho;simpa using this)<|h m γ w a K Q hi hl<|hk<|λh=>h) (λ_ _ _ _=>trivial) hev hok trivial hi hl hs (λ_=>hq)
end
end
inductive AX where
 |normal
 |ret
 |exit (id:Nat)
 |goto (l:Nat)
 |panic (av:AV)
def oS(m:Mem)(γ:Gam):Exit->AX->Prop
 | .normal,.normal=>True
 | .ret,.ret=>True
 | .exit i,.exit j=>i=j
 | .goto i,.goto j=>i=j
 | .panic chain,.panic av=> ∃v,chain=[{v,recovered:=false}]/\Rep m γ av v
 |_,_=>False
def kept(K:Nat)(kk:lXC)(o:Nat):Prop:=o<K/\kk.contains o=false
abbrev dy:=AX->Loc->lXE->Prop
def _root_.Go.Code.rf:Code->Bool
 | .rangeFunc _ _ _ _=>true
 | .seq a b=>a.rf||b.rf
 | .cond _ a b=>a.rf||b.rf
 | .block _ c=>c.rf
 | .loop c=>c.rf
 | .scope c=>c.rf
 |_=>false
def mark(D:Nat):Deferred:={target:= .collected D,args:= #[]}
def Marks(rf:Bool)(ds0:List Deferred)(w0:World)(ds:List Deferred)(γ:Gam)(w:World):Prop:=∃Ds:lXC,ds=Ds.map mark++ds0/\(rf=true\/Ds=[])/\Ds.Nodup/\ ∀D∈Ds,w0.heap.size<=D/\D<w.heap.size/\w.heap[D]? =some (.deferred<|some [])/\ ¬InG γ D
theorem Marks.none(rf:Bool)(ds:List Deferred)(w0:World)(γ:Gam)(w:World):Marks rf ds w0 ds γ w:=⟨[],rfl,.inr rfl,agU,by simp⟩
def Marks.of_eq{rf:Bool}{ds ds':List Deferred}{w0:World}{γ:Gam}{w:World}(h:ds'=ds):Marks rf ds w0 ds' γ w:=h▸Marks.none rf ds w0 γ w
def Marks.up{rf rf':Bool}{ds0 ds:List Deferred}{w0:World}{γ:Gam}{w:World}(h:Marks rf ds0 w0 ds γ w)(hr:rf=true->rf'=true):Marks rf' ds0 w0 ds γ w:=by obtain⟨Ds,h1,h2,h3⟩:=h;exact⟨Ds,h1,h2.imp hr id,h3⟩
section
variable{rf:Bool}{ds0 ds:List Deferred}
theorem Marks.gam{w0:World}{γ γ':Gam}{w:World}(h:Marks rf ds0 w0 ds γ w)(hg: ∀k,InG γ' k->InG γ k):Marks rf ds0 w0 ds γ' w:=by obtain⟨Ds,h1,h2,h3,h4⟩:=h;exact⟨Ds,h1,h2,h3,oay⟩
theorem Marks.base{w0 w1:World}{γ:Gam}{w:World}(h:Marks rf ds0 w1 ds γ w)(hs:w0.heap.size<=w1.heap.size):Marks rf ds0 w0 ds γ w:=by obtain⟨Ds,h1,h2,h3,h4⟩:=h;exact⟨Ds,h1,h2,h3,oay⟩
theorem Marks.on{w0 w1 w2:World}{m1 m2:Mem}{γ1 γ2:Gam}(h:Marks rf ds0 w0 ds γ1 w1)(ht:Trans m1 γ1 w1 m2 γ2 w2):Marks rf ds0 w0 ds γ2 w2:=by obtain⟨Ds,h1,h2,h3,h4⟩:=h;refine⟨Ds,h1,h2,h3,λD hD=> ?_⟩;obtain⟨k1,k2,k3,k4⟩:=h4 D hD;exact⟨k1,agz k2 ht.size,(ht.blk D k2 k4).trans k3,λhi=>k4 (ht.gam D k2 hi)⟩
end
def Marks.app{rf:Bool}{ds0 ds1 ds2:List Deferred}{w0 w1 w2:World}{m1 m2:Mem}{γ1 γ2:Gam}(h:Marks rf ds0 w0 ds1 γ1 w1)(hs:w0.heap.size<=w1.heap.size)(ht:Trans m1 γ1 w1 m2 γ2 w2)(k:Marks rf ds1 w1 ds2 γ2 w2):Marks rf ds0 w0 ds2 γ2 w2:=by
 obtain⟨Ds,h1,h2,h3,h4⟩:=h.on ht;obtain⟨Es,k1,k2,k3,k4⟩:=k;obtain⟨Ds',h1',_,_,h4'⟩:=h;have hD:Ds'=Ds:=by
  have:=h1'.symm.trans h1;have:=List.append_cancel_right this;have inj: ∀(a b:lXC),a.map mark=b.map mark->a=b:=by
   intro a;induction a with
   |nil=>simp_all
   |cons x a ih=>intro b hb;cases b with
    |nil=>simp at hb
    |cons y b=>grind[mark]
  exact inj _ _ this
 subst hD;refine⟨Es++Ds',by simp_all,?_,?_,λD hD=> ?_⟩
 ·grind
 ·grind
 grind
def jx(rf:Bool)(ds0:List Deferred)(K:Nat)(kk:lXC)(n:Nat)(Q:dy)(m:Mem)(γ:Gam)(w:World):Exit->Act->World->Prop:=λe a' w'=>∃m' γ' L' ob' x,Q x L' ob'/\oS m' γ' e x/\Trans m γ w m' γ' w'/\Inv m' γ' ob' w'/\bS m' γ' a' L'/\a'.tmps.size=n/\Marks rf ds0 w a'.defers γ' w'/\(∀o g,kept K kk o->γ o=some g->γ' o=some g)
def awp(df:Option Nat)(P:Program)(n K:Nat)(kk:lXC)(c:Code)(Q:dy)(L:Loc)(ob:lXE):Prop:=∀m γ w a,Inv m γ ob w->bS m γ a L->a.tmps.size=n->True->c.wpIn (dx df) 0 P (jx c.rf a.defers K kk n Q m γ w) a w
def EE(N:Loc->lXE->Prop)(Q:dy):dy
 | .normal,L,ob=>N L ob
 |x,L,ob=>Q x L ob
def jJ(id:Nat)(Q:dy):dy
 | .exit j,L,ob=>if j=id then Q .normal L ob else Q (.exit j) L ob
 |x,L,ob=>Q x L ob
section
variable{df:Option Nat}{P:Program}{n K:Nat}{kk:lXC}{Q:dy}{L:Loc}{ob:lXE}
theorem jx.trans{rf rf1 rf2:Bool}{ds0 ds1:List Deferred}{m m1:Mem}{γ γ1:Gam}{w w1:World}{e:Exit}{a:Act}{w2:World}(ht:Trans m γ w m1 γ1 w1)(hk: ∀o g,kept K kk o->γ o=some g->γ1 o=some g)(hm:Marks rf1 ds0 w ds1 γ1 w1)(r1:rf1=true->rf=true)(r2:rf2=true->rf=true)(h:jx rf2 ds1 K kk n Q m1 γ1 w1 e a w2):jx rf ds0 K kk n Q m γ w e a w2:=by obtain⟨m',γ',L',ob',x,h1,h2,h3,h4,h5,h6,h7,h8⟩:=h;exact⟨m',γ',L',ob',x,h1,h2,ht.trans h3,h4,h5,h6,(hm.up r1).app ht.size h3 (h7.up r2),λo g ho hg=>h8 o g ho (hk o g ho hg)⟩
theorem jx.rf{rf rf':Bool}{ds0:List Deferred}{m:Mem}{γ:Gam}{w:World}{e:Exit}{a:Act}{w':World}(hr:rf=true->rf'=true)(h:jx rf ds0 K kk n Q m γ w e a w'):jx rf' ds0 K kk n Q m γ w e a w':=by obtain⟨m',γ',L',ob',x,h1,h2,h3,h4,h5,h6,h7,h8⟩:=h;exact⟨m',γ',L',ob',x,h1,h2,h3,h4,h5,h6,h7.up hr,h8⟩
theorem wc{c:Code}{Q':dy}(h:awp df P n K kk c Q L ob)(hq: ∀x L ob,Q x L ob->Q' x L ob):awp df P n K kk c Q' L ob:=by intro m γ w a hi hl hs hd;refine wpIn_mono (h m γ w a hi hl hs hd) λe a' w'⟨m',γ',L',ob',x,h1,h2⟩=>⟨m',γ',L',ob',x,hq _ _ _ h1,h2⟩
def we{c:Code}{L':Loc}(hs:Sub L' L)(h:awp df P n K kk c Q L' ob):awp df P n K kk c Q L ob:=λm γ w a hi hl=>h m γ w a hi (hl.sub hs)
def mU(x:AX)(e:Exit)(hx: ∀m γ,oS m γ e x){m:Mem}{γ:Gam}{w:World}{a:Act}(hi:Inv m γ ob w)(hl:bS m γ a L)(hs:a.tmps.size=n)(hq:Q x L ob){rf:Bool}:jx rf a.defers K kk n Q m γ w e a w:=⟨m,γ,L,ob,x,hq,hx m γ,Trans.refl _ _ _,hi,hl,hs,Marks.none _ _ _ _ _,λ_ _ _ h=>h⟩
theorem EF(h:Q .normal L ob):awp df P n K kk .skip Q L ob:=λ_ _ _ _ hi hl hs _=>wpIn_skip (mU .normal .normal (λ_ _=>trivial) hi hl hs h)
theorem MW{l:Nat}(h:Q .normal L ob):awp df P n K kk (.label l) Q L ob:=λ_ _ _ _ hi hl hs _=>wpIn_label (mU .normal .normal (λ_ _=>trivial) hi hl hs h)
theorem JM(h:Q .ret L ob):awp df P n K kk .ret Q L ob:=λ_ _ _ _ hi hl hs _=>wpIn_ret (mU .ret .ret (λ_ _=>trivial) hi hl hs h)
theorem Py{id:Nat}(h:Q (.exit id) L ob):awp df P n K kk (.exit id) Q L ob:=λ_ _ _ _ hi hl hs _=>wpIn_exit (mU (.exit id) (.exit id) (λ_ _=>rfl) hi hl hs h)
theorem Pz{l:Nat}(h:Q (.goto l) L ob):awp df P n K kk (.goto l) Q L ob:=λ_ _ _ _ hi hl hs _=>wpIn_goto (mU (.goto l) (.goto l) (λ_ _=>rfl) hi hl hs h)
theorem iR{x y:Code}(h:awp df P n K kk x (EE (awp df P n K kk y Q) Q) L ob):awp df P n K kk (.seq x y) Q L ob:=by
 intro m γ w a hi hl hs hd;refine wpIn_seq (wpIn_mono (h m γ w a hi hl hs hd) ?_);intro e a1 w1 ⟨m1,γ1,L1,ob1,ax,h1,h2,h3,h4,h5,h6,h7,h8⟩;have h7':Marks (x.rf||y.rf) a.defers w a1.defers γ1 w1:=h7.up λe=>by rw[e];rfl
 have go: ∀(e:Exit)(ax:AX),EE (awp df P n K kk y Q) Q ax L1 ob1->oS m1 γ1 e ax->Exit.then (y.wpIn (dx df) 0 P<|jx (x.rf||y.rf) a.defers K kk n Q m γ w) (jx (x.rf||y.rf) a.defers K kk n Q m γ w) e a1 w1:=by
  intro e ax h1 h2;cases e with
  |normal=>
   cases ax<;>first|exact h2.elim|skip
   exact wpIn_mono (h1 m1 γ1 w1 a1 h4 h5 h6 trivial) λe2 a2 w2 hp=>jx.trans h3 h8 h7 (λe=>by rw[e];rfl) (λe=>by rw[e,Bool.or_true]) hp
  |ret=>cases ax<;>first|exact h2.elim|exact⟨m1,γ1,L1,ob1,_,h1,h2,h3,h4,h5,h6,h7',h8⟩
  |exit=>cases ax<;>first|exact h2.elim|exact⟨m1,γ1,L1,ob1,_,h1,h2,h3,h4,h5,h6,h7',h8⟩
  |goto=>cases ax<;>first|exact h2.elim|exact⟨m1,γ1,L1,ob1,_,h1,h2,h3,h4,h5,h6,h7',h8⟩
  |panic=>cases ax<;>first|exact h2.elim|exact⟨m1,γ1,L1,ob1,_,h1,h2,h3,h4,h5,h6,h7',h8⟩
  |outgrown=>cases ax<;>exact h2.elim
 exact go e ax h1 h2
def aX(L:Loc):Operand->Option AV
 | .tmp t=>lk L t
 | .const (.agg cs)=>some (.ag<|cs.toList.map .v)
 | .const v=>some (.v v)
 | .global g=>match yV.lookup g with
  |some cs=>some (.pf<|cs.map .v)
  |none=>some (.v<|.pointer<|some ⟨g,0,none⟩)
 | .func f=>some (.fn (.func f) [] [])
theorem wg{m:Mem}{γ:Gam}: ∀(vs:List Value),au m γ (vs.map .v) vs
 |[]=>by simp[au]
 |v::vs=>by simp only[afZ,au,Rep];exact⟨v,vs,rfl,rfl,wg vs⟩
theorem EG{m:Mem}{γ:Gam}{g:Nat}{cs:List Value}(h:yV.lookup g=some cs): ∀(l:List Value)(off:Nat),(∀i x,l[i]? =some x->cs[off+i]? =some x)->bD m γ (l.map .v) g off
 |[],_,_=>by simp[bD]
 |x::l,off,hl=>by
  simp only[afZ,bD,Rep];refine⟨⟨x,m.has _ _ ?_,rfl⟩,EG h l (off+1) λi y hy=> ?_⟩
  ·have:=hl 0 x rfl;grind[qg]
  ·have:=hl (i+1) y (by simpa using hy);grind
section
variable{m:Mem}{γ:Gam}{a:Act}
theorem As{v:Value}{av:AV}(h:aX L (.const v)=some av):Rep m γ av (a.eval<|.const v):=by
 cases v<;>simp only[aX,afD]at h<;>subst h<;>first
  |(simp only[Rep,Act.eval];exact⟨_,by simp,wg _⟩)
  |simp[Rep,Act.eval]
theorem wh{g:Nat}{av:AV}(h:aX L (.global g)=some av):Rep m γ av (a.eval<|.global g):=by grind[aX,Rep,Act.eval,EG]
theorem mV{x:Operand}{av:AV}(hl:bS m γ a L)(h:aX L x=some av):Rep m γ av (a.eval x):=by
 cases x with
 |tmp t=>exact(hl t av h).2
 |const v=>exact As h
 |global g=>exact wh h
 |func f=>grind[aX,Rep,Act.eval,au]
end
theorem fp{c:Operand}{x y:Code}{b:Bool}(hc:aX L c=some (.v<|.bool b))(ht:b=true->awp df P n K kk x Q L ob)(hf:b=false->awp df P n K kk y Q L ob):awp df P n K kk (.cond c x y) Q L ob:=by intro m γ w a hi hl hs hd;have he:=mV hl hc;simp only[Rep]at he;exact wpIn_cond_split he (λhb=>wpIn_mono (ht hb m γ w a hi hl hs hd)<|by grind[jx.rf,Code.rf]) (λhb=>wpIn_mono (hf hb m γ w a hi hl hs hd)<|by grind[jx.rf,Code.rf])
theorem dN{id:Nat}{c:Code}(h:awp df P n K kk c (jJ id Q) L ob):awp df P n K kk (.block id c) Q L ob:=by
 intro m γ w a hi hl hs hd;refine wpIn_block (wpIn_mono (h m γ w a hi hl hs hd) ?_);intro e a1 w1 ⟨m1,γ1,L1,ob1,ax,h1,h2,h3⟩;cases e with
 |normal=>cases ax<;>first|exact h2.elim|exact⟨m1,γ1,L1,ob1,_,h1,h2,h3⟩
 |ret=>cases ax<;>first|exact h2.elim|exact⟨m1,γ1,L1,ob1,_,h1,h2,h3⟩
 |exit j=>
  cases ax<;>first|exact h2.elim|skip
  rename_i k;simp only[oS]at h2;subst h2;simp only[Exit.inBlock,jJ]at h1⊢;split
  ·rename_i hj;rw[if_pos hj]at h1;exact⟨m1,γ1,L1,ob1,.normal,h1,trivial,h3⟩
  ·rename_i hj;rw[if_neg hj]at h1;exact⟨m1,γ1,L1,ob1,.exit j,h1,rfl,h3⟩
 |goto=>cases ax<;>first|exact h2.elim|exact⟨m1,γ1,L1,ob1,_,h1,h2,h3⟩
 |panic=>cases ax<;>first|exact h2.elim|exact⟨m1,γ1,L1,ob1,_,h1,h2,h3⟩
 |outgrown=>cases ax<;>exact h2.elim
theorem mW{ι:Type}{c:Code}(S:ι->Loc)(B:ι->lXE)(I:ι->Prop)(μ:ι->Nat)(i0:ι)(h0:I i0)(hL:Sub (S i0) L)(hB:B i0=ob)(round: ∀i,I i->awp df P n K kk c (EE (λL' ob'=> ∃j,I j/\μ j<μ i/\Sub (S j) L'/\B j=ob') Q) (S i) (B i)):awp df P n K kk (.loop c) Q L ob:=by
 intro m γ w a hi hl hs hd;refine wpIn_loop_ghost (λk a' w'=> ∃m' γ' i,μ i=k/\I i/\Trans m γ w m' γ' w'/\Inv m' γ' (B i) w'/\bS m' γ' a' (S i)/\a'.tmps.size=n/\Marks c.rf a.defers w a'.defers γ' w'/\(∀o g,kept K kk o->γ o=some g->γ' o=some g))
  (μ i0) ⟨m,γ,i0,rfl,h0,Trans.refl _ _ _,hB▸hi,hl.sub hL,hs,Marks.none _ _ _ _ _,λ_ _ _ h=>h⟩ ?_
 rintro k a1 w1 ⟨m1,γ1,i,rfl,hI,ht,hi1,hl1,hs1,hd1,hk1⟩;refine wpIn_mono (round i hI m1 γ1 w1 a1 hi1 hl1 hs1 trivial) ?_;intro e a2 w2 ⟨m2,γ2,L2,ob2,ax,h1,h2,h3,h4,h5,h6,h7,h8⟩;have h7':=hd1.app ht.size h3 h7;have hk2: ∀o g,kept K kk o->γ o=some g->γ2 o=some g:=λo g ho hg=>h8 o g ho (hk1 o g ho hg);cases e with
 |normal=>
  cases ax<;>first|exact h2.elim|skip
  obtain⟨j,j1,j2,j3,j4⟩:=h1;exact⟨μ j,j2,m2,γ2,j,rfl,j1,ht.trans h3,j4▸h4,h5.sub j3,h6,h7',hk2⟩
 |ret=>cases ax<;>first|exact h2.elim|exact⟨m2,γ2,L2,ob2,_,h1,h2,ht.trans h3,h4,h5,h6,h7',hk2⟩
 |exit=>cases ax<;>first|exact h2.elim|exact⟨m2,γ2,L2,ob2,_,h1,h2,ht.trans h3,h4,h5,h6,h7',hk2⟩
 |goto=>cases ax<;>first|exact h2.elim|exact⟨m2,γ2,L2,ob2,_,h1,h2,ht.trans h3,h4,h5,h6,h7',hk2⟩
 |panic=>cases ax<;>first|exact h2.elim|exact⟨m2,γ2,L2,ob2,_,h1,h2,ht.trans h3,h4,h5,h6,h7',hk2⟩
 |outgrown=>cases ax<;>exact h2.elim
def vy(K:Nat)(kk:lXC)(recs:List Rec):Bool:=recs.all λrc=>match rc.ks with
 |[]=>true
 |k::ks=>(k::ks).all λk=>Nat.ble K k||kk.contains k
theorem BY{recs:List Rec}(h:vy K kk recs=true){o:Nat}(ho:kept K kk o): ∀rc∈recs,rc.ks.contains o=false:=by
 intro rc hrc;simp only[vy,af2]at h;have h1:=h rc hrc;cases hks:rc.ks with
 |nil=>rfl
 |cons k ks=>
  rw[hks]at h1;simp only[af2,agX]at h1;cases hc:(k::ks).contains o with
  |false=>rfl
  |true=>
   exfalso;have hm:o∈k::ks:=by simpa using hc
   rcases h1 o hm with h2|h2
   ·have:=nbl h2;have:=ho.1;omega
   ·have:=ho.2;rw[h2]at this;cases this
def iU(L:Loc):Loc->Prop
 |[]=>True
 |(t,av)::L3=>lk L t=some av/\iU L L3
def e7{L:Loc}: ∀{L3:Loc},iU L L3->Sub L3 L
 |[],_=>Sub.nil L
 |(_t,_av)::_L3,h=>Sub.cons h.1 (e7 h.2)
def EvK(P:Program)(n:Nat)(ops:Array Oper)(l:List Oper)(L:Loc)(ob:lXE)(kf:List Rec->Loc->lXE->Prop):Prop:= ∃recs L2 ob2,Ev P n ops l recs L ob L2 ob2/\kf recs L2 ob2
section
variable{n:Nat}{ops:Array Oper}
def n7{kf:List Rec->Loc->lXE->Prop}(h:kf [] L ob):EvK P n ops [] L ob kf:=⟨[],L,ob,.nil _ _,h⟩
theorem gY{o:Oper}{rest:List Oper}{rc:Rec}{ob':lXE}{kf:List Rec->Loc->lXE->Prop}(hus:Sub rc.us L)(hdst:rc.dst=o.dst)(hn: ∀d,o.dst=some d->d<n)(hst:tJ P ops o rc ob ob')(h:EvK P n ops rest (cN L rc.dst rc.r rc.ks) ob' (λrecs=>kf (rc::recs))):EvK P n ops (o::rest) L ob kf:=by obtain⟨recs,L2,ob2,hev,hk⟩:=h;exact⟨rc::recs,L2,ob2,.cons hus hdst hn hst hev,hk⟩
end
def PA(K:Nat)(kk:lXC)(Q:dy)(recs:List Rec)(L2:Loc)(ob2:lXE):Prop:=vy K kk recs=true/\ ∃L3,iU L2 L3/\Q .normal L3 ob2
theorem G3{id:Nat}{l:List Oper}(hst:df=none\/l.all Oper.still=true)(h:EvK P n l.toArray l L ob (PA K kk Q)):awp df P n K kk (.region id l.toArray false) Q L ob:=by obtain⟨recs,L2,ob2,hev,hk,L3,hL,hq⟩:=h;intro m γ w a hi hl hs hd;refine wpIn_region_lit ?_;exact Pt hev hst hi hl hs λm' γ' w' a' ht hi' hl' hs' hd' hk'=>⟨m',γ',L3,ob2,.normal,hq,trivial,ht,hi',hl'.sub (e7 hL),hs',.of_eq hd',(by grind[BY])⟩
def ZG{K:Nat}{kk:lXC}{Q:dy}{recs:List Rec}{L2 L3:Loc}{ob2:lXE}(h:vy K kk recs=true)(hL:iU L2 L3)(hq:Q .normal L3 ob2):PA K kk Q recs L2 ob2:=⟨h,L3,hL,hq⟩
end
def PB:TypeDesc->Bool
 | .struct _| .array _ _=>true
 |_=>false
section
variable(P:Program)
def tyk(t:TypeId):Option (Bool×Nat):=match P.underlying t,P.info? t with
 |some d,some i=>some (PB d,i.size)
 |_,_=>none
def fld(s f:Nat):Option Nat:=match P.underlying s with
 |some (.struct fs)=>match fs[f]? with
  |some fd=>match P.info? fd.type with
   |some i=>if i.size=0 then none else some fd.offset
   |none=>none
  |none=>none
 |_=>none
def slk(t:TypeId):Option (TypeId×Nat×Nat):=match P.underlying t with
 |some (.slice e)=>match P.info? e with
  |some i=>some (e,i.size,i.bytes)
  |none=>none
 |_=>none
def zer(t:TypeId):Option (List Value):=match P.info? t with
 |some i=>i.zero.map λz=>z.cells.toList
 |none=>none
end
section
variable{P:Program}{w:World}
section
variable{t:TypeId}{g:Bool}{k:Nat}
theorem su(h:tyk P t=some (g,k)):(isAgg t).run P w= .ok g w:=by
 unfold tyk at h;cases hu:P.underlying t with
 |none=>simp[hu]at h
 |some d=>
  cases hi:P.info? t with
  |none=>simp[hu,hi]at h
  |some i=>simp only[hu,hi,afD,afW]at h;unfold isAgg;rw[Sem.run_bind,run_underlying hu w];simp only[Result.andThen_ok];rw[<-h.1];cases d<;>simp[PB]
theorem run_sizeOf(h:tyk P t=some (g,k)):(sizeOf t).run P w= .ok k w:=by
 unfold tyk at h;cases hu:P.underlying t with
 |none=>simp[hu]at h
 |some d=>
  cases hi:P.info? t with
  |none=>simp[hu,hi]at h
  |some i=>simp_all[sizeOf,typeInfo]
end
theorem fq(b off j:Nat):(⟨b,off,none⟩:Addr).add j=⟨b,off+j,none⟩:=by unfold Addr.add;split<;>simp_all
theorem jg{t:TypeId}{k:Nat}(h:tyk P t=some (true,k)){b off:Nat}{xs:List Value}(hx: ∀j v,xs[j]? =some v->w.cell? ⟨b,off+j,none⟩=some v)(hl:xs.length=k):(loadVar t ⟨b,off,none⟩).run P w= .ok (.agg xs.toArray) w:=by have hc:=run_loadCells_list (P:=P) w ⟨b,off,none⟩ xs (λj v hv=>by rw[fq];exact hx j v hv);rw[hl]at hc;simp[loadVar,su h,run_sizeOf h,hc]
theorem jh{t:TypeId}{k:Nat}(h:tyk P t=some (false,k)){b off:Nat}{x:Value}(hx:w.cell? ⟨b,off,none⟩=some x):(loadVar t ⟨b,off,none⟩).run P w= .ok x w:=by simp[loadVar,su h,hx]
end
inductive qp where
 |ret (av:AV)
 |panic (av:AV)
def l9(m:Mem)(γ:Gam):Ending->qp->Prop
 | .returned v,.ret av=>Rep m γ av v
 | .panicked chain,.panic av=> ∃v,chain=[{v,recovered:=false}]/\Rep m γ av v
 |_,_=>False
def kL(P:Program)(f:FuncId)(args:lXF)(ob:lXE)(kk:lXC)(R:qp->lXE->Prop):Prop:=
 (∃fn,P.funcs[f]? =some fn/\(fn.name== "runtime.NumGoroutine")=false/\fn.body.isNone=false)/\
 ∀m γ w vs,Inv m γ ob w->au m γ args vs->Calls P f vs.toArray w λe w'=>∃m' γ' r ob',R r ob'/\l9 m' γ' e r/\Trans m γ w m' γ' w'/\Inv m' γ' ob' w'/\(∀o g,kk.contains o=false->γ o=some g->γ' o=some g)
def fJ:Nat->lXF->Loc
 |_,[]=>[]
 |k,av::r=>(k,av)::fJ (k+1) r
inductive oP(P:Program)(L:Loc)(ob:lXE):List ResultVar->lXF->Prop
 |nil:oP P L ob [] []
 |tmp {t:Tmp} {av:AV} {rs:List ResultVar} {avs:lXF} (h:lk L t=some av) (hr:oP P L ob rs avs):oP P L ob (.tmp t::rs) (av::avs)
 |agg {t:Tmp} {ty:TypeId} {o off k:Nat} {Tb:TypeId} {cells:lXF} {rs:List ResultVar} {avs:lXF} (ht:tyk P ty=some (true,k)) (h:lk L t=some (.pt o off)) (ho:ob[o]? =some (.box Tb cells)) (hk:off+k<=cells.length)
   (hr:oP P L ob rs avs):oP P L ob (.cell t ty::rs) (.ag ((cells.drop off).take k)::avs)
 |one {t:Tmp} {ty:TypeId} {o off k:Nat} {c:AV} {Tb:TypeId} {cells:lXF} {rs:List ResultVar} {avs:lXF} (ht:tyk P ty=some (false,k)) (h:lk L t=some (.pt o off)) (ho:ob[o]? =some (.box Tb cells)) (hk:cells[off]? =some c)
   (hr:oP P L ob rs avs):oP P L ob (.cell t ty::rs) (c::avs)
def iw:lXF->AV
 |[av]=>av
 |avs=> .tu avs
section
variable{P:Program}{L:Loc}{ob:lXE}{m:Mem}{γ:Gam}{w:World}{a:Act}
theorem gm{x:Value}{o off:Nat}(h:Rep m γ (.pt o off) x): ∃b C,γ o=some (some (b,C))/\x= .pointer (some ⟨b,off,none⟩):=by simpa [Rep]using h
theorem BZ(hi:Inv m γ ob w){o:Nat}{Tb:TypeId}{cells:lXF}(ho:ob[o]? =some (.box Tb cells)): ∃b cs,γ o=some (some (b,0))/\w.heap[b]? =some (.cells cs Tb (0,0))/\au m γ cells cs.toList:=by obtain⟨b,cs,h1,h2,h3,_⟩:=hi.obj o _ ho;exact⟨b,cs,h1,h2,h3⟩
theorem cell_of{b i:Nat}{cs:Array Value}{T:TypeId}{fr:Nat×Nat}(h:w.heap[b]? =some (.cells cs T fr)):w.cell? ⟨b,i,none⟩=cs[i]? :=by simp[World.cell?,h]
theorem qq(hi:Inv m γ ob w){o off k:Nat}{Tb:TypeId}{cells:lXF}(ho:ob[o]? =some (.box Tb cells))(hk:off+k<=cells.length){x:Value}(hx:Rep m γ (.pt o off) x){ty:TypeId}(ht:tyk P ty=some (true,k)):∃b y,x= .pointer (some ⟨b,off,none⟩)/\(loadVar ty ⟨b,off,none⟩).run P w= .ok y w/\Rep m γ (.ag<|(cells.drop off).take k) y:=by
 obtain⟨b,C,h1,rfl⟩:=gm hx;obtain⟨b',cs,g1,g2,g3⟩:=BZ hi ho;rw[h1]at g1;cases g1;have hr:=dG (eG g3 off) k;refine⟨b,_,rfl,jg ht (xs:=(cs.toList.drop off).take k) ?_ ?_,?_⟩
 ·grind[cell_of]
 ·rw[aZ hr];simp;omega
 grind[Rep]
theorem qt(hi:Inv m γ ob w){o off k:Nat}{c:AV}{Tb:TypeId}{cells:lXF}(ho:ob[o]? =some (.box Tb cells))(hk:cells[off]? =some c){x:Value}(hx:Rep m γ (.pt o off) x){ty:TypeId}(ht:tyk P ty=some (false,k)):∃b y,x= .pointer (some ⟨b,off,none⟩)/\(loadVar ty ⟨b,off,none⟩).run P w= .ok y w/\Rep m γ c y:=by grind[gm,BZ,bX,jh,cell_of]
theorem wi(ad:Addr):asAddr (.pointer<|some ad)=pure ad:=rfl
theorem PC(hi:Inv m γ ob w)(hl:bS m γ a L){rs:List ResultVar}{avs:lXF}(h:oP P L ob rs avs):∃vs:List Value,(rs.mapM (m:=Sem) λ| .tmp t=>pure (a.tmps.getD t undef)| .cell x t=>do loadVar t<|<-asAddr (a.tmps.getD x undef)).run P w= .ok vs w/\au m γ avs vs:=by
 induction h with
 |nil=>simp_all[au]
 |tmp h hr ih=>obtain⟨vs,h1,h2⟩:=ih;refine⟨_::vs,?_,by simp only[au];exact⟨_,_,rfl,(hl _ _ h).2,h2⟩⟩;simp_all
 |agg ht h ho hk hr ih=>obtain⟨vs,h1,h2⟩:=ih;obtain⟨b,y,e1,e2,e3⟩:=qq hi ho hk (hl _ _ h).2 ht;refine⟨y::vs,?_,by grind[au]⟩;grind[Sem.run_bind,wi,Sem.run_pure,Result.andThen_ok]
 |one ht h ho hk hr ih=>obtain⟨vs,h1,h2⟩:=ih;obtain⟨b,y,e1,e2,e3⟩:=qt hi ho hk (hl _ _ h).2 ht;refine⟨y::vs,?_,by grind[au]⟩;grind[Sem.run_bind,wi,Sem.run_pure,Result.andThen_ok]
theorem EH(hi:Inv m γ ob w)(hl:bS m γ a L){fn:Func}{avs:lXF}(h:oP P L ob fn.results.toList avs): ∃v,(results fn a.tmps).run P w= .ok v w/\Rep m γ (iw avs) v:=by
 obtain⟨vs,h1,h2⟩:=PC hi hl h;have hm:(fn.results.mapM (m:=Sem) λ| .tmp t=>pure (a.tmps.getD t undef)| .cell x t=>do loadVar t<|<-asAddr (a.tmps.getD x undef)).run P w= .ok vs.toArray w:=by grind[Array.mapM_eq_mapM_toList,Sem.run_map,Result.andThen_ok]
 refine⟨if h:vs.toArray.size=1 then vs.toArray[0]else .tuple vs.toArray,?_,?_⟩
 ·unfold results;refine(Sem.run_bind P w _ _).trans ?_;exact(afQ (λr=>Result.andThen r _) hm).trans rfl
 ·match avs,vs,h2 with
  |[],vs,h2=>grind[au,iw,Rep]
  |[av],vs,h2=>grind[au,iw]
  |av::bv::avs,vs,h2=>have hlen:=aZ h2;simp_all[iw,Rep]
theorem At: ∀(k:Nat)(avs:lXF)(t:Nat),lk (fJ k avs) t=if k<=t then avs[t-k]? else none
 |k,[],t=>by simp[fJ,lk]
 |k,av::r,t=>by simp only[fJ];rw[cH,At (k+1) r t];grind
theorem EI{args:lXF}{vs:List Value}{n:Nat}(hv:au m γ args vs)(_hn:args.length<=n):bS m γ {tmps:=vs.toArray++Array.replicate (n-vs.toArray.size) undef,defers:=[]} (fJ 0 args):=by intro t av h;rw[At]at h;simp only[af7,agL,Nat.sub_zero]at h;obtain⟨x,hx,hr⟩:=bX hv t av h;have hlt:t<vs.length:=(afF.1 hx).1;refine⟨by simp;omega,?_⟩;simp_all[Array.getElem?_append_left]
end
def JN(P:Program)(fn:Func)(R:qp->lXE->Prop):dy
 | .normal,L,ob| .ret,L,ob=> ∃avs,oP P L ob fn.results.toList avs/\R (.ret<|iw avs) ob
 | .panic av,_,ob=>R (.panic av) ob
 |_,_,_=>False
def ma{P:Program}{fn:Func}{tmps:Array Value}{R:Ending->World->Prop}{m:Mem}{γ:Gam}{ob:lXE}{u:FrameMode}(hu:u≠ .run): ∀(Ds:lXC)(w:World),Inv m γ ob w->Ds.Nodup->(∀D∈Ds,D<w.heap.size/\w.heap[D]? =some (.deferred<|some [])/\ ¬InG γ D)->(∀w',Inv m γ ob w' ->w'.os=w.os->w'.tape=w.tape->w'.output=w.output->w'.heap.size=w.heap.size->(∀k,k∉Ds->w'.heap[k]? =w.heap[k]?)->LeavesIn (dx none) 0 P fn tmps R [] u w')->LeavesInM (dx none) 0 P fn tmps R (Ds.map mark) u w
 |[],w,hi,_,_,h=>h w hi rfl rfl rfl rfl λ_ _=>rfl
 |D::Ds,w,hi,hn,hD,h=>by
  obtain⟨hn1,hn2⟩:=ahe.1 hn;obtain⟨q1,q2,q3⟩:=hD D oaf;refine⟨hu,.inl ⟨D,_,rfl,run_takeDeferred q2,?_⟩⟩;have hoth: ∀k,k≠D->(w.putObj D<|.deferred none).heap[k]? =w.heap[k]? :=λk hk=>World.putObj_heap_other hk;have hi2:Inv m γ ob (w.putObj D<|.deferred none):=by
   refine⟨λa x hx=> ?_,λo X hX=> ?_,hi.sep,λo b C hg=>by rw[World.putObj_size];exact hi.dom o b C hg,hi.len,hi.tab.of_eq λg cs hg=>hoth g λe=>by subst e;obtain⟨t,fr,q⟩:=hi.tab _ cs hg;rw[q2]at q;cases q⟩
   ·have hc:=hi.mem a x hx;have hne:a.block≠D:=by intro e;unfold World.cell? at hc;rw[e,q2]at hc;simp at hc
    unfold World.cell? at hc⊢;rw[hoth _ hne];exact hc
   ·have hb:=hi.obj o X hX;have hne: ∀b C,γ o=some (some (b,C))->b≠D:=λb C hg e=>q3 ⟨o,C,e▸hg⟩;cases X with
    |dead=>trivial
    |box T cells=>obtain⟨b,cs,g1,g2,g3⟩:=hb;exact⟨b,cs,g1,(hoth b<|hne b _ g1).trans g2,g3⟩
    |row T S rows=>
     rcases hb with g|⟨b,C,cs,g1,g2,g3⟩
     ·exact .inl g
     ·exact .inr ⟨b,C,cs,g1,g2.of_eq (hoth b<|hne b _ g1),g3⟩
    |mp keys vals=>obtain⟨b,es,clock,g1,g2,g3⟩:=hb;exact⟨b,es,clock,g1,(hoth b<|hne b _ g1).trans g2,g3⟩
    |lp busy k ts cs=>obtain⟨b,r,xs,g1,g2,g3⟩:=hb;exact⟨b,r,xs,g1,(hoth b<|hne b _ g1).trans g2,g3⟩
  refine ma hu Ds _ hi2 hn2 (λE hE=> ?_) λw' hi' e1 e2 e3 e4 e5=>h w' hi' e1 e2 e3 (e4.trans World.putObj_size) λk hk=> ?_
  ·have hne:E≠D:=λe=>hn1 (e▸hE);obtain⟨p1,p2,p3⟩:=hD E (af9 _ hE);exact⟨by rw[World.putObj_size];exact p1,(hoth E hne).trans p2,p3⟩
  ·simp only[agc,not_or]at hk;exact(e5 k hk.2).trans (hoth k hk.1)
def kM{P:Program}{f:FuncId}{fn:Func}{c:Code}{args:lXF}{ob:lXE}{kk:lXC}{R:qp->lXE->Prop}(hf:P.funcs[f]? =some fn)(hname:(fn.name== "runtime.NumGoroutine")=false)(hb:fn.body=some c)(hn:args.length<=fn.ntmps)(h:awp none P fn.ntmps ob.length kk c (JN P fn R) (fJ 0 args) ob):kL P f args ob kk R:=by
 refine⟨⟨fn,hf,hname,by simp[hb]⟩,λm γ w vs hi hv=>wb.1 (callsIn_of_wp_marks (F:=dx none) (n:=0) hf hb trivial ?_)⟩;have hlen:=aZ hv;refine wpIn_mono (h m γ w _ hi (EI hv hn) oau trivial) ?_;intro e a' w' ⟨m',γ',L',ob',x,h1,h2,h3,h4,h5,h6,h7,h8⟩;have hk: ∀o g,kk.contains o=false->γ o=some g->γ' o=some g:=λo g ho hg=>h8 o g ⟨hi.len o oav,ho⟩ hg;obtain⟨Ds,m1,_,m3,m4⟩:=h7;simp only[agG]at m1;have tr: ∀w2:World,w2.os=w'.os->w2.tape=w'.tape->w2.output=w'.output->w2.heap.size=w'.heap.size->(∀k,k∉Ds->w2.heap[k]? =w'.heap[k]?)->Trans m γ w m' γ' w2:=λw2 e1 e2 e3 e4 e5=>⟨h3.mem,h3.new,h3.gam,e1.trans h3.os,e2.trans h3.tape,e3.trans h3.output,by rw[e4];exact h3.size,λk hk hng=>(e5 k λhD=>by have:=(m4 k hD).1;omega).trans (h3.blk k hk hng)⟩;have fin: ∀avs,oP P L' ob' fn.results.toList avs->R (.ret<|iw avs) ob' ->LeavesInM (dx none) 0 P fn a'.tmps (λe w'=> ∃m' γ' r ob',R r ob'/\l9 m' γ' e r/\Trans m γ w m' γ' w'/\Inv m' γ' ob' w'/\(∀o g,kk.contains o=false->γ o=some g->γ' o=some g)) a'.defers .returning w':=λavs g1 g2=>by rw[m1];refine ma oaf Ds w' h4 m3 (λD hD=>(m4 D hD).2) λw2 hi2 e1 e2 e3 e4 e5=> ?_;obtain⟨v,k1,k2⟩:=EH hi2 h5 g1;exact⟨v,k1,m',γ',_,ob',g2,k2,tr w2 e1 e2 e3 e4 e5,hi2,hk⟩
 cases e with
 |normal=>
  cases x<;>first|exact h2.elim|skip
  obtain⟨avs,g1,g2⟩:=h1;exact fin avs g1 g2
 |ret=>
  cases x<;>first|exact h2.elim|skip
  obtain⟨avs,g1,g2⟩:=h1;exact fin avs g1 g2
 |exit=>cases x<;>first|exact h2.elim|exact h1.elim
 |goto=>cases x<;>first|exact h2.elim|exact h1.elim
 |panic chain=>
  cases x<;>first|exact h2.elim|skip
  show LeavesInM (dx none) 0 P fn a'.tmps _ a'.defers (.panicking chain) w';rw[m1];exact ma oaf Ds w' h4 m3 (λD hD=>(m4 D hD).2) λw2 hi2 e1 e2 e3 e4 e5=>⟨m',γ',_,ob',h1,h2,tr w2 e1 e2 e3 e4 e5,hi2,hk⟩
 |outgrown=>cases x<;>exact h2.elim
inductive Gd(ops:Array Oper)(L:Loc):Option (Nat×Bool)->Loc->Prop
 |none:Gd ops L none []
 |some {j t:Nat} {want:Bool} (hj:(ops[j]?).bind (·.dst)=some t) (hl:lk L t=some (.v<|.bool want)):Gd ops L (some (j,want)) [(t,.v (.bool want))]
inductive Gx(ops:Array Oper)(L:Loc):Option (Nat×Bool)->Loc->Prop
 |some {j t:Nat} {want got:Bool} (hj:(ops[j]?).bind (·.dst)=some t) (hl:lk L t=some (.v<|.bool got)) (hne:(got==want)=false):Gx ops L (some (j,want)) [(t,.v (.bool got))]
 |und {j t:Nat} {want:Bool} (hj:(ops[j]?).bind (·.dst)=some t) (hl:lk L t=some (.v undef)):Gx ops L (some (j,want)) [(t,.v undef)]
def cg:List (Operand×AV)->Loc
 |[]=>[]
 |(.tmp t,av)::r=>(t,av)::cg r
 |_::r=>cg r
def dV(L:Loc):List (Operand×AV)->Prop
 |[]=>True
 |(x,av)::r=>aX L x=some av/\dV L r
def gZ(m:Mem)(γ:Gam)(a:Act):List (Operand×AV)->Prop
 |[]=>True
 |(x,av)::r=>Rep m γ av (a.eval x)/\gZ m γ a r
def eH{L:Loc}: ∀{A B:Loc},iU L A->iU L B->iU L (A++B)
 |[],_,_,h=>h
 |(_t,_av)::_A,_B,h,k=>⟨h.1,eH h.2 k⟩
theorem sw{L:Loc}: ∀{A:Loc},iU L A-> ∀{t:Nat}{av:AV},(t,av)∈A->lk L t=some av
 |[],_,t,av,h=>by cases h
 |(s,bv)::A,h,t,av,hm=>by
  cases agc.1 hm with
  |inl e=>cases e;exact h.1
  |inr e=>exact sw h.2 e
def mX: ∀{A:Loc}{t:Nat}{av:AV},(t,av)∈A-> ∃bv,lk A t=some bv
 |[],t,av,h=>by cases h
 |(s,bv)::A,t,av,h=>by
  rw[cH];split
  ·exact⟨bv,rfl⟩
  ·rename_i hne;cases agc.1 h with
   |inl e=>cases e;exact absurd rfl hne
   |inr e=>exact mX e
theorem vz{L A:Loc}(h:iU L A){t:Nat}{av:AV}(hm:(t,av)∈A):lk A t=some av:=by obtain⟨bv,hb⟩:=mX hm;have h1:=sw h hm;grind[sw,jf]
def ef{L:Loc}: ∀{xs:List (Operand×AV)},dV L xs->iU L (cg xs)
 |[],_=>trivial
 |(x,av)::r,h=>by
  cases x with
  |tmp t=>exact⟨h.1,ef h.2⟩
  |const v=>exact ef (xs:=r) h.2
  |global g=>exact ef (xs:=r) h.2
  |func f=>exact ef (xs:=r) h.2
def hC{L A:Loc}(hk:iU L A){m:Mem}{γ:Gam}{a:Act}(hl:bS m γ a A): ∀{xs:List (Operand×AV)},dV L xs->(∀p∈cg xs,p∈A)->gZ m γ a xs
 |[],_,_=>trivial
 |(x,av)::r,h,hA=>by
  refine⟨?_,hC hk hl h.2 λp hp=>hA p ?_⟩
  ·cases x with
   |tmp t=>exact(hl t av<|vz hk<|hA _<|by simp[cg]).2
   |const v=>exact As h.1
   |global g=>exact wh h.1
   |func f=>have:=h.1;grind[aX,Rep,Act.eval,au]
  ·cases x<;>simp[cg,hp]
section
variable{ops:Array Oper}
theorem mb{L:Loc}{g:Option (Nat×Bool)}{gu:Loc}(h:Gd ops L g gu):iU L gu:=by
 cases h with
 |none=>trivial
 |some hj hl=>exact⟨hl,trivial⟩
section
variable{a:Act}{m:Mem}{γ:Gam}{A:Loc}{j t:Nat}
theorem pq{b:Bool}(hl:bS m γ a A)(hj:(ops[j]?).bind (·.dst)=some t)(h:lk A t=some (.v<|.bool b)):yielded ops a.tmps j=some b:=by obtain⟨h1,h2⟩:=hl t _ h;simp_all[Rep,yielded]
theorem EJ(hl:bS m γ a A)(hj:(ops[j]?).bind (·.dst)=some t)(h:lk A t=some (.v undef)):yielded ops a.tmps j=none:=by obtain⟨h1,h2⟩:=hl t _ h;simp only[Rep]at h2;unfold yielded;rw[hj];simp only[Option.bind_some];rw[af4,agF h1]at h2;simp only[Option.getD_some]at h2;rw[agF h1,h2];rfl
end
theorem iC{L:Loc}{o:Oper}{gu:Loc}(h:Gd ops L o.guard gu){m:Mem}{γ:Gam}{a:Act}{A:Loc}(hk:iU L A)(hl:bS m γ a A)(hA: ∀p∈gu,p∈A):Region.wanted o (yielded ops a.tmps)=true:=by
 unfold Region.wanted;generalize o.guard=g at h;cases h with
 |none=>rfl
 |some hj hl'=>grind[pq,vz]
end
section
variable{P:Program}{n:Nat}{ops:Array Oper}{l:List Oper}{L:Loc}{ob:lXE}{kf:List Rec->Loc->lXE->Prop}{gu:Loc}
section
variable{o:Oper}{r:AV}
theorem cK(xs:List (Operand×AV))(hx:dV L xs)(hg:Gd ops L o.guard gu)(hn: ∀d,o.dst=some d->d<n)(h: ∀m γ w a,(∀ad x,m ad=some x->w.cell? ad=some x)->gZ m γ a xs-> ∃x,(execOp a.eval o).run P w= .ok (.value x) w/\Rep m γ r x)(k:EvK P n ops l (cN L o.dst r []) ob (λrecs=>kf (⟨o.dst,gu++cg xs,r,[],.pure⟩::recs))):EvK P n ops (o::l) L ob kf:=by have hkeep:=eH (mb hg) (ef hx);refine gY (rc:=⟨o.dst,gu++cg xs,r,[],.pure⟩) (e7 hkeep) rfl hn ⟨rfl,rfl,λob' m γ w a K Q hi hl hK=> ?_⟩ k;have hw:=iC hg hkeep hl (λp hp=>by simp[hp]);simp only[hw,agL];obtain⟨x,h1,h2⟩:=h m γ w a hi.mem (hC hkeep hl hx<|λp hp=>by simp[hp]);refine .inl ?_;unfold Oper.wp;rw[h1,Oper.upon_value];exact hK m γ w x (Trans.refl _ _ _) ⟨λ_ _ h=>h,λ_ _ h _=>h⟩ hi h2
theorem ZH(xs:List (Operand×AV))(hx:dV L xs)(hg:Gd ops L o.guard gu)(hn: ∀d,o.dst=some d->d<n)(h: ∀m γ w a,Inv m γ ob w->gZ m γ a xs-> ∃x,(execOp a.eval o).run P w= .ok (.value x) w/\Rep m γ r x)(k:EvK P n ops l (cN L o.dst r []) ob (λrecs=>kf (⟨o.dst,gu++cg xs,r,[],.read⟩::recs))):EvK P n ops (o::l) L ob kf:=by have hkeep:=eH (mb hg) (ef hx);refine gY (rc:=⟨o.dst,gu++cg xs,r,[],.read⟩) (e7 hkeep) rfl hn ⟨rfl,rfl,λm γ w a K Q hi hl hK=> ?_⟩ k;have hw:=iC hg hkeep hl (λp hp=>by simp[hp]);simp only[hw,agL];obtain⟨x,h1,h2⟩:=h m γ w a hi (hC hkeep hl hx<|λp hp=>by simp[hp]);refine .inl ?_;unfold Oper.wp;rw[h1,Oper.upon_value];exact hK m γ w x (Trans.refl _ _ _) ⟨λ_ _ h=>h,λ_ _ h _=>h⟩ hi h2
theorem wj{k:Nat}{X:Ob}(hX:ob[k]? =some X)(xs:List (Operand×AV))(hx:dV L xs)(hg:Gd ops L o.guard gu)(hn: ∀d,o.dst=some d->d<n)(h: ∀ob m γ w a,ob[k]? =some X->Inv m γ ob w->gZ m γ a xs-> ∃x,(execOp a.eval o).run P w= .ok (.value x) w/\Rep m γ r x)(kk:EvK P n ops l (cN L o.dst r []) ob (λrecs=>kf (⟨o.dst,gu++cg xs,r,[],.rd k X⟩::recs))):EvK P n ops (o::l) L ob kf:=by have hkeep:=eH (mb hg) (ef hx);refine gY (rc:=⟨o.dst,gu++cg xs,r,[],.rd k X⟩) (e7 hkeep) rfl hn (show tJ P ops o ⟨o.dst,gu++cg xs,r,[],.rd k X⟩ ob ob from⟨hX,rfl,rfl,λob' hX' m γ w a K Q hi hl hK=> ?_⟩) kk;have hw:=iC hg hkeep hl (λp hp=>by simp[hp]);simp only[hw,agL];obtain⟨x,h1,h2⟩:=h ob' m γ w a hX' hi (hC hkeep hl hx<|λp hp=>by simp[hp]);refine .inl ?_;unfold Oper.wp;rw[h1,Oper.upon_value];exact hK m γ w x (Trans.refl _ _ _) ⟨λ_ _ h=>h,λ_ _ h _=>h⟩ hi h2
theorem JO{k:Nat}{X X':Ob}(hX:ob[k]? =some X)(xs:List (Operand×AV))(hx:dV L xs)(hg:Gd ops L o.guard gu)(hn: ∀d,o.dst=some d->d<n)(h: ∀ob m γ w a(K:Act->World->Prop)(Q:Exit->Act->World->Prop),ob[k]? =some X->Inv m γ ob w->gZ m γ a xs->(∀m' γ' w' x,Trans m γ w m' γ' w' ->Le m γ [] m' γ' ->Inv m' γ' (ob.set k X') w' ->Rep m' γ' r x->K (a.put o.dst x) w')->o.wp P a w K Q)(kk:EvK P n ops l (cN L o.dst r []) (ob.set k X') (λrecs=>kf (⟨o.dst,gu++cg xs,r,[],.st k X X'⟩::recs))):EvK P n ops (o::l) L ob kf:=by have hkeep:=eH (mb hg) (ef hx);refine gY (rc:=⟨o.dst,gu++cg xs,r,[],.st k X X'⟩) (e7 hkeep) rfl hn (show tJ P ops o ⟨o.dst,gu++cg xs,r,[],.st k X X'⟩ ob (ob.set k X')from⟨hX,rfl,λob' hX' m γ w a K Q hi hl hK=> ?_⟩) kk;have hw:=iC hg hkeep hl (λp hp=>by simp[hp]);simp only[hw,agL];exact .inl (h ob' m γ w a K Q hX' hi (hC hkeep hl hx<|λp hp=>by simp[hp]) hK)
theorem B0(xs:List (Operand×AV))(hx:dV L xs)(hg:Gd ops L o.guard gu)(hn: ∀d,o.dst=some d->d<n)(h: ∀ob m γ w a(K:Act->World->Prop)(Q:Exit->Act->World->Prop),Inv m γ ob w->gZ m γ a xs->(∀m' γ' w' x,Trans m γ w m' γ' w' ->Le m γ [] m' γ' ->Inv m' γ' ob w' ->Rep m' γ' r x->K (a.put o.dst x) w')->o.wp P a w K Q)(k:EvK P n ops l (cN L o.dst r []) ob (λrecs=>kf (⟨o.dst,gu++cg xs,r,[],.pure⟩::recs))):EvK P n ops (o::l) L ob kf:=by have hkeep:=eH (mb hg) (ef hx);refine gY (rc:=⟨o.dst,gu++cg xs,r,[],.pure⟩) (e7 hkeep) rfl hn ⟨rfl,rfl,λob' m γ w a K Q hi hl hK=> ?_⟩ k;have hw:=iC hg hkeep hl (λp hp=>by simp[hp]);simp only[hw,agL];exact .inl (h ob' m γ w a K Q hi (hC hkeep hl hx<|λp hp=>by simp[hp]) hK)
theorem ki{ob1:lXE}(ks:lXC)(xs:List (Operand×AV))(hx:dV L xs)(hg:Gd ops L o.guard gu)(hn: ∀d,o.dst=some d->d<n)(h: ∀m γ w a(K:Act->World->Prop)(Q:Exit->Act->World->Prop),Inv m γ ob w->gZ m γ a xs->(∀m' γ' w' x,Trans m γ w m' γ' w' ->Le m γ ks m' γ' ->Inv m' γ' ob1 w' ->Rep m' γ' r x->K (a.put o.dst x) w')->o.wp P a w K Q)(k:EvK P n ops l (cN L o.dst r ks) ob1 (λrecs=>kf (⟨o.dst,gu++cg xs,r,ks,.write⟩::recs))):EvK P n ops (o::l) L ob kf:=by have hkeep:=eH (mb hg) (ef hx);refine gY (rc:=⟨o.dst,gu++cg xs,r,ks,.write⟩) (e7 hkeep) rfl hn (show GStep P ops o ⟨o.dst,gu++cg xs,r,ks,.write⟩ ob ob1 from λm γ w a K Q hi hl hK=> ?_) k;have hw:=iC hg hkeep hl (λp hp=>by simp[hp]);simp only[hw,agL];exact .inl (h m γ w a K Q hi (hC hkeep hl hx<|λp hp=>by simp[hp]) hK)
end
theorem ZI{o:Oper}(hg:Gx ops L o.guard gu)(hn: ∀d,o.dst=some d->d<n)(k:EvK P n ops l (cN L o.dst (.v undef) []) ob (λrecs=>kf (⟨o.dst,gu,.v undef,[],.pure⟩::recs))):EvK P n ops (o::l) L ob kf:=by
 have hkeep:iU L gu:=by
  generalize o.guard=g at hg;cases hg with
  |some hj hl _=>exact⟨hl,trivial⟩
  |und hj hl=>exact⟨hl,trivial⟩
 refine gY (rc:=⟨o.dst,gu,.v undef,[],.pure⟩) (e7 hkeep) rfl hn ⟨rfl,rfl,λob' m γ w a K Q hi hl hK=> ?_⟩ k;have hw:Region.wanted o (yielded ops a.tmps)=false:=by
  unfold Region.wanted;generalize o.guard=g at hg;cases hg with
  |some hj hl' hne=>have:=pq hl hj (vz hkeep<|agO.2 rfl);simpa [this]using hne
  |und hj hl'=>have:=EJ hl hj (vz hkeep<|agO.2 rfl);simp[this]
 simp only[hw,Bool.false_eq_true,if_false];exact hK m γ w undef (Trans.refl _ _ _) ⟨λ_ _ h=>h,λ_ _ h _=>h⟩ hi (by simp[Rep])
variable{dst:Option Nat}{ty:TypeId}{pos:String}{after:Array Edge}{guard:Option (Nat×Bool)}
def ZJ{x:Operand}{av:AV}(hx:aX L x=some av)(hg:Gd ops L guard gu)(hn: ∀d,dst=some d->d<n)(k:EvK P n ops l (cN L dst av []) ob (λrecs=>kf<|⟨dst,gu++cg [(x,av)],av,[],.pure⟩::recs)):EvK P n ops (⟨dst,.move x,ty,pos,after,guard⟩::l) L ob kf:=cK (o:=⟨dst,.move x,ty,pos,after,guard⟩) [(x,av)] ⟨hx,trivial⟩ hg hn (λ_m _γ _w _a _ h=>⟨_,rfl,h.1⟩) k
def Au{x:Operand}{av:AV}(hx:aX L x=some av)(hg:Gd ops L guard gu)(hn: ∀d,dst=some d->d<n)(k:EvK P n ops l (cN L dst av []) ob (λrecs=>kf<|⟨dst,gu++cg [(x,av)],av,[],.pure⟩::recs)):EvK P n ops (⟨dst,.assign x,ty,pos,after,guard⟩::l) L ob kf:=cK (o:=⟨dst,.assign x,ty,pos,after,guard⟩) [(x,av)] ⟨hx,trivial⟩ hg hn (λ_m _γ _w _a _ h=>⟨_,rfl,h.1⟩) k
theorem ZK{c x y:Operand}{b:Bool}{u v:AV}(hc:aX L c=some (.v<|.bool b))(hx:aX L x=some u)(hy:aX L y=some v)(hg:Gd ops L guard gu)(hn: ∀d,dst=some d->d<n)(k:EvK P n ops l (cN L dst (cond b u v) []) ob (λrecs=>kf<|⟨dst,gu++cg [(c,.v (.bool b)),(x,u),(y,v)],cond b u v,[],.pure⟩::recs)):EvK P n ops (⟨dst,.pick c x y,ty,pos,after,guard⟩::l) L ob kf:=
 cK (o:=⟨dst,.pick c x y,ty,pos,after,guard⟩) [(c,.v (.bool b)),(x,u),(y,v)] ⟨hc,hx,hy,trivial⟩ hg hn (λm γ w a _ h=>by
  have h1:=h.1;simp only[Rep]at h1;refine⟨if b then a.eval x else a.eval y,?_,?_⟩
  ·simp_all[execOp,asBool]
  ·cases b
   ·exact h.2.2.1
   ·exact h.2.1) k
section
variable{t:TypeId}{x:Operand}
theorem wk{cs:lXF}{k:Nat}(out:lXF)(ht:tyk P t=some (true,k))(hx:aX L x=some (.pf cs))(hk:k<=cs.length)(hout:cs.take k=out)(hg:Gd ops L guard gu)(hn: ∀d,dst=some d->d<n)(kk:EvK P n ops l (cN L dst (.ag out) []) ob (λrecs=>kf<|⟨dst,gu++cg [(x,.pf cs)],.ag out,[],.pure⟩::recs)):EvK P n ops (⟨dst,.load t x,ty,pos,after,guard⟩::l) L ob kf:=by
 subst hout;exact cK (o:=⟨dst,.load t x,ty,pos,after,guard⟩) [(x,.pf cs)] ⟨hx,trivial⟩ hg hn (λm γ w a hm h=>by
  have h1:=h.1;simp only[Rep]at h1;obtain⟨b,off,h2,h3⟩:=h1;obtain⟨xs,g1,g2⟩:=kJ h3;have hr:=dG g1 k;refine⟨.agg (xs.take k).toArray,?_,by simp only[Rep];exact⟨_,rfl,hr⟩⟩;have:=jg (P:=P) (w:=w) ht (b:=b) (off:=off) (xs:=xs.take k) (λj v hv=>by
   rw[agp]at hv;split at hv
   ·exact hm _ _ (g2 j v hv)
   ·cases hv) (by rw[aZ hr];simp;omega)
  simp[execOp,h2,Instr.loadAt,Instr.sureAddr,this]) kk
theorem wm{c:AV}{cs:lXF}{k:Nat}(ht:tyk P t=some (false,k))(hx:aX L x=some (.pf (c::cs)))(hg:Gd ops L guard gu)(hn: ∀d,dst=some d->d<n)(kk:EvK P n ops l (cN L dst c []) ob (λrecs=>kf<|⟨dst,gu++cg [(x,.pf (c::cs))],c,[],.pure⟩::recs)):EvK P n ops (⟨dst,.load t x,ty,pos,after,guard⟩::l) L ob kf:=cK (o:=⟨dst,.load t x,ty,pos,after,guard⟩) [(x,.pf (c::cs))] ⟨hx,trivial⟩ hg hn (λm γ w a hm h=>by have h1:=h.1;simp only[Rep,bD]at h1;obtain⟨b,off,h2,⟨y,h3,h4⟩,h5⟩:=h1;simp_all[jh,execOp,Instr.loadAt,Instr.sureAddr]) kk
theorem wo{o off k:Nat}{Tb:TypeId}{cells:lXF}(out:lXF)(ht:tyk P t=some (true,k))(hx:aX L x=some (.pt o off))(ho:ob[o]? =some (.box Tb cells))(hk:off+k<=cells.length)(hout:(cells.drop off).take k=out)(hg:Gd ops L guard gu)(hn: ∀d,dst=some d->d<n)(kk:EvK P n ops l (cN L dst (.ag out) []) ob (λrecs=>kf<|⟨dst,gu++cg [(x,.pt o off)],.ag out,[],.rd o (.box Tb cells)⟩::recs)):EvK P n ops (⟨dst,.load t x,ty,pos,after,guard⟩::l) L ob kf:=by subst hout;exact wj (o:=⟨dst,.load t x,ty,pos,after,guard⟩) ho [(x,.pt o off)] ⟨hx,trivial⟩ hg hn (λob m γ w a ho hi h=>by obtain⟨b,y,e1,e2,e3⟩:=qq hi ho hk h.1 ht;simp_all[execOp,Instr.loadAt,Instr.sureAddr]) kk
theorem wq{o off k:Nat}{c:AV}{Tb:TypeId}{cells:lXF}(ht:tyk P t=some (false,k))(hx:aX L x=some (.pt o off))(ho:ob[o]? =some (.box Tb cells))(hk:cells[off]? =some c)(hg:Gd ops L guard gu)(hn: ∀d,dst=some d->d<n)(kk:EvK P n ops l (cN L dst c []) ob (λrecs=>kf<|⟨dst,gu++cg [(x,.pt o off)],c,[],.rd o (.box Tb cells)⟩::recs)):EvK P n ops (⟨dst,.load t x,ty,pos,after,guard⟩::l) L ob kf:=wj (o:=⟨dst,.load t x,ty,pos,after,guard⟩) ho [(x,.pt o off)] ⟨hx,trivial⟩ hg hn (λob m γ w a ho hi h=>by obtain⟨b,y,e1,e2,e3⟩:=qt hi ho hk h.1 ht;simp_all[execOp,Instr.loadAt,Instr.sureAddr]) kk
end
section
variable{s f off:Nat}
theorem tL(h:fld P s f=some off)(w:World)(b o:Nat):(Instr.fieldAt s (.pointer<|some ⟨b,o,none⟩) f).run P w= .ok (.pointer<|some ⟨b,o+off,none⟩) w:=by
 unfold fld at h;cases hu:P.underlying s with
 |none=>simp[hu]at h
 |some d=>
  cases d with
  |struct fs=>
   simp only[hu]at h;cases hf:fs[f]? with
   |none=>simp[hf]at h
   |some fd=>
    simp only[hf]at h;cases hi:P.info? fd.type with
    |none=>simp[hi]at h
    |some i=>simp_all[Instr.fieldAt,Instr.sureAddr,fieldPlace,sizeOf,typeInfo,fq,run_underlying]
  |_=>simp[hu]at h
theorem uv{x:Operand}{o p:Nat}(q:Nat)(hf:fld P s f=some off)(hx:aX L x=some (.pt o p))(hq:p+off=q)(hg:Gd ops L guard gu)(hn: ∀d,dst=some d->d<n)(kk:EvK P n ops l (cN L dst (.pt o q) []) ob (λrecs=>kf<|⟨dst,gu++cg [(x,.pt o p)],.pt o q,[],.pure⟩::recs)):EvK P n ops (⟨dst,.fieldAddr s x f,ty,pos,after,guard⟩::l) L ob kf:=by subst hq;exact cK (o:=⟨dst,.fieldAddr s x f,ty,pos,after,guard⟩) [(x,.pt o p)] ⟨hx,trivial⟩ hg hn (λm γ w a hm h=>by obtain⟨b,C,h1,h2⟩:=gm h.1;simp_all[execOp,tL,Rep]) kk
theorem uw{x:Operand}{cs:lXF}(out:lXF)(hf:fld P s f=some off)(hx:aX L x=some (.pf cs))(hout:cs.drop off=out)(hg:Gd ops L guard gu)(hn: ∀d,dst=some d->d<n)(kk:EvK P n ops l (cN L dst (.pf out) []) ob (λrecs=>kf<|⟨dst,gu++cg [(x,.pf cs)],.pf out,[],.pure⟩::recs)):EvK P n ops (⟨dst,.fieldAddr s x f,ty,pos,after,guard⟩::l) L ob kf:=by subst hout;exact cK (o:=⟨dst,.fieldAddr s x f,ty,pos,after,guard⟩) [(x,.pf cs)] ⟨hx,trivial⟩ hg hn (λm γ w a hm h=>by have h1:=h.1;simp only[Rep]at h1;obtain⟨b,o,h2,h3⟩:=h1;refine⟨_,by simp[execOp,h2,tL hf];rfl,?_⟩;simp only[Rep];exact⟨b,o+off,rfl,fv h3 off⟩) kk
end
theorem tM{x:Operand}{av:AV}(hx:aX L x=some av)(hav:match av with| .pt _ _| .pf _=>True|_=>False)(hg:Gd ops L guard gu)(hn: ∀d,dst=some d->d<n)
  (kk:EvK P n ops l (cN L dst av []) ob (λrecs=>kf<|⟨dst,gu++cg [(x,av)],av,[],.pure⟩::recs)):EvK P n ops (⟨dst,.nilCheck x,ty,pos,after,guard⟩::l) L ob kf:=
 cK (o:=⟨dst,.nilCheck x,ty,pos,after,guard⟩) [(x,av)] ⟨hx,trivial⟩ hg hn (λm γ w a hm h=>by
  have h1:=h.1;cases av with
  |pt o p=>obtain⟨b,C,h2,h3⟩:=gm h1;simp_all[execOp]
  |pf cs=>have h2:=h1;simp only[Rep]at h2;obtain⟨b,o,h3,h4⟩:=h2;simp_all[execOp]
  |_=>exact hav.elim) kk
theorem G4{x:Operand}{i:Nat}{vs:lXF}{av:AV}(hx:aX L x=some (.tu vs))(hi:vs[i]? =some av)(hg:Gd ops L guard gu)(hn: ∀d,dst=some d->d<n)(kk:EvK P n ops l (cN L dst av []) ob (λrecs=>kf<|⟨dst,gu++cg [(x,.tu vs)],av,[],.pure⟩::recs)):EvK P n ops (⟨dst,.extract x i,ty,pos,after,guard⟩::l) L ob kf:=cK (o:=⟨dst,.extract x i,ty,pos,after,guard⟩) [(x,.tu vs)] ⟨hx,trivial⟩ hg hn (λm γ w a hm h=>by have h1:=h.1;simp only[Rep]at h1;obtain⟨xs,h2,h3⟩:=h1;obtain⟨y,h4,h5⟩:=bX h3 i av hi;simp_all[execOp,Instr.extract]) kk
end
theorem afB(a b:Int):(a==b)=decide (a=b):=rfl
theorem wrap_i64{a:Int}(h0: -9223372036854775808<=a)(h1:a<=9223372036854775807):IntKind.i64.wrap a=a:=by grind[wrap,IntKind.signed,IntKind.bits]
def eqv:Value->Value->Option Bool
 | .int k a,.int k' b=>cond (decide<|k=k') (some<|decide<|a=b) none
 | .bool a,.bool b=>some (a==b)
 | .string a,.string b=>some (a.toList==b.toList)
 |_,_=>none
def kt(P:Program)(t:TypeId):Nat:=match P.underlying t with
 |some (.int _)=>0
 |some .bool=>1
 |some .string=>2
 |_=>3
def kv:Value->Nat
 | .int _ _=>0
 | .bool _=>1
 | .string _=>2
 |_=>4
def afA(P:Program):List Field->Option (List<|Nat×Nat)
 |[]=>some []
 |f::fs=>if f.name= "_" then none else match afA P fs with
  |some r=>some ((f.offset,kt P f.type)::r)
  |none=>none
def fkS(P:Program)(t:TypeId):Option (List<|Nat×Nat):=match P.underlying t with
 |some (.struct fs)=>if P.stoodInHeld t||P.eqGuardType P.depth t then none else afA P fs.toList
 |_=>none
def eqS:List (Nat×Nat)->List Value->List Value->Option Bool
 |[],_,_=>some true
 |(i,k)::is,xs,ys=>match xs[i]?,ys[i]? with
  |some x,some y=>cond (Nat.beq (kv x) k) (match eqv x y with
   |some b=>match eqS is xs ys with
    |some c=>some (b&&c)
    |none=>none
   |none=>none) none
  |_,_=>none
section
variable{P:Program}{w:World}
theorem afz{t:TypeId}{x y:Value}{b:Bool}(hk:kv x=kt P t)(hb:eqv x y=some b)(d:Nat):(Op.equalIn (d+1) t x y).run P w= .ok b w:=by
 unfold kt at hk;cases hu:P.underlying t with
 |none=>rw[hu]at hk;cases x<;>simp[kv]at hk
 |some D=>
  rw[hu]at hk;cases x<;>cases y<;>simp only[eqv]at hb<;>first|(cases hb;done)|skip
  ·cases D<;>first|(simp[kv]at hk;done)|skip
   cases hb;simp[Op.equalIn,run_underlying hu]
  ·rename_i k a k' c;cases D<;>first|(simp[kv]at hk;done)|skip
   by_cases hkk:k=k'
   ·subst hkk;simp only[decide_true,afN,afD]at hb;subst hb;simp only[Op.equalIn,Sem.run_bind,run_underlying hu,Result.andThen_ok,agL,Sem.run_pure];rw[afB]
   ·simp[hkk]at hb
  ·cases D<;>first|(simp[kv]at hk;done)|skip
   cases hb;simp[Op.equalIn,run_underlying hu,beq_toListBytes]
theorem afx{t:TypeId}{xs:List Value}{i:Nat}{x:Value}(hk:kv x=kt P t)(hx:xs[i]? =some x):(part t xs.toArray i).run P w= .ok x w:=by
 unfold kt at hk;cases hu:P.underlying t with
 |none=>rw[hu]at hk;cases x<;>simp[kv]at hk
 |some D=>
  have hagg:(isAgg t).run P w= .ok false w:=by unfold isAgg;rw[Sem.run_bind,run_underlying hu w];rw[hu]at hk;cases D<;>first|(cases x<;>simp[kv]at hk;done)|simp
  simp[part,hagg,hx]
theorem afC{x y:Value}{b:Bool}(h:eqv x y=some b):kv y=kv x:=by cases x<;>cases y<;>simp_all[eqv,kv]
theorem afy{xs ys:List Value}{d:Nat}: ∀{fs:List Field}{os:List (Nat×Nat)}{b:Bool},afA P fs=some os->eqS os xs ys=some b->(Op.eqFields (d+1) xs.toArray ys.toArray fs).run P w= .ok b w
 |[],os,b,hs,hb=>by simp only[afA,afD]at hs;subst hs;simp only[eqS,afD]at hb;subst hb;simp[Op.eqFields]
 |f::fs,os,b,hs,hb=>by
  simp only[afA]at hs;by_cases hname:f.name= "_"
  ·simp[hname]at hs
  ·rw[if_neg hname]at hs;cases hs':afA P fs with
   |none=>simp[hs']at hs
   |some os'=>
    simp only[hs',afD]at hs;subst hs;simp only[eqS]at hb;cases hx:xs[f.offset]? with
    |none=>simp[hx]at hb
    |some x=>
     cases hy:ys[f.offset]? with
     |none=>simp[hx,hy]at hb
     |some y=>
      simp only[hx,hy]at hb;cases hk:Nat.beq (kv x) (kt P f.type)with
      |false=>simp[hk]at hb
      |true=>
       have hk':=afJ hk;cases he:eqv x y with
       |none=>simp[hk,he]at hb
       |some c=>
        cases hr:eqS os' xs ys with
        |none=>simp[hk,he,hr]at hb
        |some c'=>simp only[hk,he,hr,afN,afD]at hb;have ih:=afy (d:=d) hs' hr;simp only[Op.eqFields,ne_eq,hname,not_false_eq_true,agL,Sem.run_bind,afx hk' hx,afx ((afC he).trans hk') hy,Result.andThen_ok,afz hk' he];cases c<;>simp_all
theorem afw{t:TypeId}{fs:List (Nat×Nat)}(h:fkS P t=some fs){xs ys:List Value}{b:Bool}(hb:eqS fs xs ys=some b)(x y:Operand):(do eqGuard .eql t x y (.agg xs.toArray) (.agg ys.toArray);binOp .eql t (.agg xs.toArray)<|.agg ys.toArray).run P w= .ok (.bool b) w/\ (do eqGuard .neq t x y (.agg xs.toArray) (.agg ys.toArray);binOp .neq t (.agg xs.toArray)<|.agg ys.toArray).run P w= .ok (.bool !b) w:=by
 unfold fkS at h;cases hu:P.underlying t with
 |none=>simp[hu]at h
 |some D=>
  cases D with
  |struct F=>
   simp only[hu]at h;split at h
   ·cases h
   ·rename_i hg;simp only[agX,not_or,Bool.not_eq_true]at hg;have hfo:P.fieldsOf t=F:=by simp[Program.fieldsOf,hu]
    have hst:=run_equalIn_struct (P:=P) w 9999 t xs.toArray ys.toArray (by rw[hfo];exact hu) hg.1;rw[hfo]at hst;have:=afy (P:=P) (w:=w) (d:=9998) h hb;rw[this]at hst;constructor
    ·rw[Sem.run_bind,run_eqGuard_agg w .eql t x y _ _ hg.2,Result.andThen_ok,run_eql_struct,hst];rfl
    ·rw[Sem.run_bind,run_eqGuard_agg w .neq t x y _ _ hg.2,Result.andThen_ok,run_neq_struct,hst];rfl
  |_=>simp[hu]at h
end
section
variable{P:Program}{n:Nat}{ops:Array Oper}{l:List Oper}{L:Loc}{ob:lXE}{kf:List Rec->Loc->lXE->Prop}{gu:Loc}
variable{dst:Option Nat}{ty:TypeId}{pos:String}{after:Array Edge}{guard:Option (Nat×Bool)}
theorem MX{op:Op}{x y:Operand}{u v r:Value}(hx:aX L x=some (.v u))(hy:aX L y=some (.v v))(hg:Gd ops L guard gu)(hn: ∀d,dst=some d->d<n)(h: ∀(w:World)(ρ:Operand->Value),ρ x=u->ρ y=v->(execOp ρ ⟨dst,op,ty,pos,after,guard⟩).run P w= .ok (.value r) w)(k:EvK P n ops l (cN L dst (.v r) []) ob (λrecs=>kf<|⟨dst,gu++cg [(x,.v u),(y,.v v)],.v r,[],.pure⟩::recs)):EvK P n ops (⟨dst,op,ty,pos,after,guard⟩::l) L ob kf:=cK (o:=⟨dst,op,ty,pos,after,guard⟩) [(x,.v u),(y,.v v)] ⟨hx,hy,trivial⟩ hg hn (λm γ w a _ h1=>by obtain⟨h2,h3,_⟩:=h1;simp only[Rep]at h2 h3;exact⟨r,h w a.eval h2 h3,by simp[Rep]⟩) k
theorem jK{m:Mem}{γ:Gam}: ∀{vs xs:List Value},au m γ (vs.map .v) xs->xs=vs
 |[],xs,h=>by simpa [au]using h
 |v::vs,xs,h=>by simp only[afZ,au,Rep]at h;obtain⟨x,r,rfl,rfl,h3⟩:=h;rw[jK h3]
def gb:lXF->Option (List Value)
 |[]=>some []
 | .v x::r=>match gb r with
  |some xs=>some (x::xs)
  |none=>none
 |_::_=>none
theorem iV: ∀{cs:lXF}{vs:List Value},gb cs=some vs->cs=vs.map .v
 |[],vs,h=>by grind[gb]
 |c::cs,vs,h=>by
  cases c<;>simp only[gb]at h<;>first|(cases h;done)|skip
  cases hr:gb cs with
  |none=>simp[hr]at h
  |some xs=>simp only[hr,afD]at h;subst h;simp[iV hr]
theorem ZL{t:TypeId}{d:TypeId×Nat×Nat}(h:slk P t=some d)(_ts:Array TypeId)(w:World)(a:Option Addr)(len cap:Nat):(Builtin.len_ #[t] ty #[.slice a len cap]).run P w= .ok (.int .i64 len) w:=by
 unfold slk at h;cases hu:P.underlying t with
 |none=>simp[hu]at h
 |some D=>
  cases D with
  |slice e=>simp[Builtin.len_,run_underlying hu,goInt]
  |_=>simp[hu]at h
theorem kY{t e:TypeId}{S B:Nat}(h:slk P t=some (e,S,B)):P.underlying t=some (.slice e)/\ ∃i,P.info? e=some i/\i.size=S/\i.bytes=B:=by grind[slk]
def sy:AV->Option Nat
 | .sl _ rows=>some rows.length
 | .sr _ _ _ len=>some len
 | .v (.slice _ len cap)=>cond (Nat.ble len cap) (some len) none
 |_=>none
theorem ac0{x:Operand}{t:TypeId}{d:TypeId×Nat×Nat}{av:AV}{k:Nat}(ht:slk P t=some d)(hx:aX L x=some av)(hk:match av with| .sl _ rows=>rows.length=k| .sr _ _ _ len=>len=k| .v (.slice _ len _)=>len=k|_=>False)
  (hg:Gd ops L guard gu) (hn: ∀d,dst=some d->d<n)
  (kk:EvK P n ops l (cN L dst (.v<|.int .i64 k) []) ob (λrecs=>kf<|⟨dst,gu++cg [(x,av)],.v (.int .i64 k),[],.pure⟩::recs)):
  EvK P n ops (⟨dst,.call ⟨.builtin .len,#[x],#[t]⟩,ty,pos,after,guard⟩::l) L ob kf:=
 cK (o:=⟨dst,.call ⟨.builtin .len,#[x],#[t]⟩,ty,pos,after,guard⟩) [(x,av)] ⟨hx,trivial⟩ hg hn (λm γ w a _ h=>by
  have h1:=h.1;have key: ∃b c,a.eval x= .slice b k c:=by
   cases av with
   |sl S rows=>grind[Rep]
   |sr o S lo len=>grind[Rep]
   |v y=>
    simp only[Rep]at h1;cases y<;>first|exact hk.elim|skip
    simp_all
   |_=>exact hk.elim
  obtain⟨b,c,e⟩:=key;refine⟨.int .i64 k,?_,by simp[Rep]⟩;have:=ZL (ty:=ty) ht #[t] w b k c;simp_all[execOp,resolve,invoke,builtin]) kk
theorem tN{t e:TypeId}{S B:Nat}(h:slk P t=some (e,S,B))(w:World)(b off len cap:Nat)(q:IntKind)(i:Nat)(hi:i<len):(Instr.indexAt t (.slice (some ⟨b,off,none⟩) len cap)<|.int q i).run P w= .ok (.pointer<|some ⟨b,off+i*S,none⟩) w:=by
 obtain⟨hu,inf,h1,h2,_⟩:=kY h;have hc:(0:Int)<=(i:Int)/\(i:Int)<(len:Int):=by omega
 simp only[Instr.indexAt,asIntOf,Sem.run_bind,Sem.run_pure,Result.andThen_ok,run_underlying hu];simp_all[sizeOf,typeInfo,fq]
section
variable{x i:Operand}{t e:TypeId}
theorem ux{S B:Nat}{rows:List lXF}{row:lXF}{q:IntKind}{z:Int}(ht:slk P t=some (e,S,B))(hx:aX L x=some (.sl S rows))(hi:aX L i=some (.v<|.int q z))(hz:0<=z)(hr:rows[z.toNat]? =some row)(hg:Gd ops L guard gu)(hn: ∀d,dst=some d->d<n)(kk:EvK P n ops l (cN L dst (.pf row) []) ob (λrecs=>kf<|⟨dst,gu++cg [(x,.sl S rows),(i,.v (.int q z))],.pf row,[],.pure⟩::recs)):EvK P n ops (⟨dst,.indexAddr t x i,ty,pos,after,guard⟩::l) L ob kf:=
 cK (o:=⟨dst,.indexAddr t x i,ty,pos,after,guard⟩) [(x,.sl S rows),(i,.v (.int q z))] ⟨hx,hi,trivial⟩ hg hn (λm γ w a _ h=>by
  obtain⟨h1,h2,_⟩:=h;simp only[Rep]at h1 h2;obtain⟨ad,len,cap,e1,e2,e3,e4⟩:=h1;have hlt:z.toNat<rows.length:=(afF.1 hr).1;obtain⟨b,off,rfl,e5⟩:=e4.resolve_left (λhc=>by rw[hc]at hlt;simp at hlt);have:=tN ht w b off len cap q z.toNat oaa;rw[Int.toNat_of_nonneg hz]at this;refine⟨.pointer (some ⟨b,off+z.toNat*S,none⟩),?_,?_⟩
  ·grind[execOp,Sem.run_bind,Result.andThen_ok,Sem.run_pure]
  ·simp only[Rep];exact⟨b,_,rfl,(iT e5 _ _ hr).2⟩) kk
theorem uy{S B o lo len:Nat}{q:IntKind}{z:Int}(ht:slk P t=some (e,S,B))(hx:aX L x=some (.sr o S lo len))(hi:aX L i=some (.v<|.int q z))(hz:0<=z)(hr:z<len)(hg:Gd ops L guard gu)(hn: ∀d,dst=some d->d<n)(kk:EvK P n ops l (cN L dst (.pt o<|lo*S+z.toNat*S) []) ob (λrecs=>kf<|⟨dst,gu++cg [(x,.sr o S lo len),(i,.v (.int q z))],.pt o (lo*S+z.toNat*S),[],.pure⟩::recs)):EvK P n ops (⟨dst,.indexAddr t x i,ty,pos,after,guard⟩::l) L ob kf:=
 cK (o:=⟨dst,.indexAddr t x i,ty,pos,after,guard⟩) [(x,.sr o S lo len),(i,.v (.int q z))] ⟨hx,hi,trivial⟩ hg hn (λm γ w a _ h=>by
  obtain⟨h1,h2,_⟩:=h;simp only[Rep]at h1 h2;rcases h1 with⟨_,_,_,e⟩|⟨b,C,cap,g1,g2,_,_,(g3|⟨e,_⟩)⟩
  ·omega
  rotate_left
  ·omega
  ·have:=tN ht w b (lo*S) len cap q z.toNat oaa;rw[Int.toNat_of_nonneg hz]at this;simp_all[execOp,Rep]) kk
end
inductive Bd(L:Loc)(d:Nat):Option Operand->Nat->List (Operand×AV)->Prop
 |non:Bd L d none d []
 |num {x:Operand} {q:IntKind} {z:Int} (hx:aX L x=some (.v<|.int q z)) (hz:0<=z):Bd L d (some x) z.toNat [(x,.v (.int q z))]
section
variable{L:Loc}{d:Nat}{x:Option Operand}{k:Nat}{xs:List (Operand×AV)}
theorem jL(h:Bd L d x k xs){ys:List (Operand×AV)}(hy:dV L ys):dV L (xs++ys):=by
 cases h with
 |non=>exact hy
 |num hx _=>exact⟨hx,hy⟩
theorem jM(h:Bd L d x k xs){m:Mem}{γ:Gam}{a:Act}{ys:List (Operand×AV)}(hr:gZ m γ a (xs++ys)):((x=none/\k=d)\/ ∃o q,x=some o/\a.eval o= .int q (k:Int))/\gZ m γ a ys:=by
 cases h with
 |non=>exact⟨.inl ⟨rfl,rfl⟩,hr⟩
 |num hx hz=>obtain⟨h1,h2⟩:=hr;simp only[Rep]at h1;exact⟨oay,h2⟩
end
theorem iD(w:World)(q:IntKind)(k y:Nat)(code:BoundsCode)(h:k<=y):(Instr.sliceBound (.int q k) y code).run P w= .ok k w:=by grind[run_sliceBound]
theorem kZ{t e:TypeId}{S B:Nat}(h:slk P t=some (e,S,B))(w:World)(ad:Option Addr)(len cap l hh mx:Nat)(lo hi mo:Option Value)
  (hlo:(lo=none/\l=0)\/ ∃q,lo=some (.int q (l:Int))) (hhi:(hi=none/\hh=len/\mo=none)\/ ∃q,hi=some (.int q (hh:Int))) (hmo:(mo=none/\mx=cap)\/ ∃q,mo=some (.int q (mx:Int))) (h1:l<=hh) (h2:hh<=mx) (h3:mx<=cap):
  (Instr.sliceAt t (.slice ad len cap) lo hi mo).run P w= .ok (.slice (if mx=l then ad else ad.map (·.add<|l*S)) (hh-l)<|mx-l) w:=by
 obtain⟨hu,inf,g1,g2,_⟩:=kY h;have hsz:(sizeOf e).run P w= .ok S w:=by simp[sizeOf,typeInfo,g1,g2]
 have key:(Instr.sliceBounds true len cap lo hi mo).run P w= .ok (l,hh,mx) w:=by
  rcases hmo with⟨rfl,rfl⟩|⟨qm,rfl⟩
  ·rcases hhi with⟨rfl,rfl,_⟩|⟨qh,rfl⟩
   ·rcases hlo with⟨rfl,rfl⟩|⟨ql,rfl⟩
    ·simp[Instr.sliceBounds]
    simp_all[Instr.sliceBounds,iD]
   ·rcases hlo with⟨rfl,rfl⟩|⟨ql,rfl⟩
    ·simp_all[Instr.sliceBounds,iD]
    simp_all[Instr.sliceBounds,iD]
  ·rcases hhi with⟨rfl,rfl,hc⟩|⟨qh,rfl⟩
   ·cases hc
   ·rcases hlo with⟨rfl,rfl⟩|⟨ql,rfl⟩
    ·simp_all[Instr.sliceBounds,iD]
    simp_all[Instr.sliceBounds,iD]
 simp_all[Instr.sliceAt,run_underlying,Instr.slice]
theorem EK{x:Operand}{lo hi:Option Operand}{t e:TypeId}{S B:Nat}{rows:List lXF}{p q:Nat}{xl xh:List (Operand×AV)}(ht:slk P t=some (e,S,B))(hx:aX L x=some (.sl S rows))(hl:Bd L 0 lo p xl)(hh:Bd L rows.length hi q xh)(h1:p<=q)(h2:q<=rows.length)(hg:Gd ops L guard gu)(hn: ∀d,dst=some d->d<n)(kk:EvK P n ops l (cN L dst (.sl S<|(rows.drop p).take<|q-p) []) ob (λrecs=>kf<|⟨dst,gu++cg (xl++(xh++ [(x,.sl S rows)])),.sl S ((rows.drop p).take<|q-p),[],.pure⟩::recs)):EvK P n ops (⟨dst,.slice t x lo hi none,ty,pos,after,guard⟩::l) L ob kf:=
 cK (o:=⟨dst,.slice t x lo hi none,ty,pos,after,guard⟩) (xl++(xh++ [(x,.sl S rows)])) (jL hl<|jL hh ⟨hx,trivial⟩) hg hn (λm γ w a _ h=>by
  obtain⟨k1,h⟩:=jM hl h;obtain⟨k2,h⟩:=jM hh h;have h5:=h.1;simp only[Rep]at h5;obtain⟨ad,len,cap,e1,e2,e3,e4⟩:=h5;subst e2;have hr:=kZ (P:=P) ht w ad rows.length cap p q cap (lo.map a.eval) (hi.map a.eval) none (by
   rcases k1 with⟨rfl,rfl⟩|⟨o,q',rfl,hq⟩
   ·exact .inl ⟨rfl,rfl⟩
   ·exact .inr ⟨q',by simp[hq]⟩) (by
   rcases k2 with⟨rfl,rfl⟩|⟨o,q',rfl,hq⟩
   ·exact .inl ⟨rfl,rfl,rfl⟩
   ·exact .inr ⟨q',by simp[hq]⟩) (.inl ⟨rfl,rfl⟩) h1 oaa (afG _)
  refine⟨_,by simp only[execOp,e1,Option.map_none,Sem.run_bind,hr,Result.andThen_ok,Sem.run_pure];rfl,?_⟩;simp only[Rep];refine⟨_,_,_,rfl,by simp;omega,by omega,?_⟩;by_cases hpq:p=q
  ·left;subst hpq;simp
  ·right;have hne:rows≠ []:=by intro hc;subst hc;simp at h2;omega
   obtain⟨b,off,rfl,e5⟩:=e4.resolve_left hne;refine⟨b,off+p*S,?_,jw (jv e5 p) _⟩;rw[if_neg oaa];simp[fq]) kk
theorem tO{x:Operand}{lo hi mo:Option Operand}{t e:TypeId}{S B o l0 len:Nat}{p q mx:Nat}{xl xh xm:List (Operand×AV)}(ht:slk P t=some (e,S,B))(hx:aX L x=some (.sr o S l0 len))(hl:Bd L 0 lo p xl)(hh:Bd L len hi q xh)(hm:Bd L 0 mo mx xm)(h1:p<=q)(h2:q<=len)(h3:mo=none\/((∃h,hi=some h)/\q<=mx/\mx<=len/\(mx≠p\/l0+p≠0)))(hg:Gd ops L guard gu)(hn: ∀d,dst=some d->d<n)(kk:EvK P n ops l (cN L dst (.sr o S (l0+p)<|q-p) []) ob (λrecs=>kf<|⟨dst,gu++cg (xl++(xh++(xm++ [(x,.sr o S l0 len)]))),.sr o S (l0+p) (q-p),[],.pure⟩::recs)):EvK P n ops (⟨dst,.slice t x lo hi mo,ty,pos,after,guard⟩::l) L ob kf:=
 cK (o:=⟨dst,.slice t x lo hi mo,ty,pos,after,guard⟩) (xl++(xh++(xm++ [(x,.sr o S l0 len)]))) (jL hl<|jL hh<|jL hm ⟨hx,trivial⟩) hg hn (λm γ w a _ h=>by
  obtain⟨k1,h⟩:=jM hl h;obtain⟨k2,h⟩:=jM hh h;obtain⟨k3,h⟩:=jM hm h;have h5:=h.1;have hb1:(lo.map a.eval=none/\p=0)\/ ∃q,lo.map a.eval=some (.int q (p:Int)):=by
   rcases k1 with⟨rfl,rfl⟩|⟨o,q',rfl,hq⟩
   ·exact .inl ⟨rfl,rfl⟩
   ·exact .inr ⟨q',by simp[hq]⟩
  have hb2:(hi.map a.eval=none/\q=len/\mo.map a.eval=none)\/ ∃q',hi.map a.eval=some (.int q' (q:Int)):=by
   rcases k2 with⟨rfl,rfl⟩|⟨o,q',rfl,hq⟩
   ·rcases h3 with rfl|⟨⟨h,hh⟩,_⟩
    ·exact .inl ⟨rfl,rfl,rfl⟩
    ·cases hh
   ·exact .inr ⟨q',by simp[hq]⟩
  have hb3: ∀cap,len<=cap-> ∃mx',((mo.map a.eval=none/\mx'=cap)\/ ∃q,mo.map a.eval=some (.int q (mx':Int)))/\q<=mx'/\mx'<=cap/\(mx' ≠p\/l0+p≠0\/p=0)/\(mo=none\/mx'<=len):=by
   intro cap hc;rcases k3 with⟨rfl,_⟩|⟨o,q',rfl,hq⟩
   ·exact⟨cap,.inl ⟨rfl,rfl⟩,by omega,afG _,by omega,.inl rfl⟩
   ·rcases h3 with hc2|⟨_,g1,g2,g3⟩
    ·cases hc2
    ·exact⟨mx,.inr ⟨q',by simp[hq]⟩,g1,by omega,by omega,.inr g2⟩
  simp only[Rep]at h5;rcases h5 with⟨g1,⟨ad,g2⟩,g3,g4⟩|⟨b,C,cap,g1,g2,g3,g4,g5⟩
  ·subst g4;subst g3;obtain rfl:q=0:=by omega
   obtain rfl:p=0:=by omega
   obtain⟨mx',m1,m2,m3,m4,m5⟩:=hb3 0 oaa;obtain rfl:mx'=0:=by omega
   have hr:=kZ (P:=P) ht w ad 0 0 0 0 0 (lo.map a.eval) (hi.map a.eval) (mo.map a.eval) hb1 hb2 m1 h1 oaa (afG _);exact⟨_,by simp only[execOp,g2,Sem.run_bind,hr,Result.andThen_ok,Sem.run_pure];rfl,by simp[Rep,g1]⟩
  ·obtain⟨mx',m1,m2,m3,m4,m5⟩:=hb3 cap g3;have key: ∀ad,a.eval x= .slice ad len cap->(Instr.sliceAt t (a.eval x) (lo.map a.eval) (hi.map a.eval)<|mo.map a.eval).run P w= .ok (.slice (if mx'=p then ad else ad.map (·.add<|p*S)) (q-p)<|mx' -p) w:=by intro ad e;rw[e];exact kZ (P:=P) ht w ad len cap p q mx' (lo.map a.eval) (hi.map a.eval) (mo.map a.eval) hb1 hb2 m1 h1 m2 m3
   rcases g5 with g5|⟨g6,g7,ad,g5⟩
   ·refine⟨_,by simp only[execOp,Sem.run_bind,key _ g5,Result.andThen_ok,Sem.run_pure];rfl,?_⟩;simp only[Rep];refine .inr ⟨b,C,mx' -p,g1,by omega,by omega,by omega,?_⟩;by_cases hmp:mx'=p
    ·rw[if_pos hmp];by_cases hp0:p=0
     ·left;subst hp0;rw[Nat.add_zero]
     ·right;exact⟨by omega,by omega,_,by rw[show q-p=0 from by omega]⟩
    ·rw[if_neg hmp];left;simp only[afV,fq,agD]
   ·subst g6;obtain rfl:q=0:=by omega
    obtain rfl:p=0:=by omega
    refine⟨_,by simp only[execOp,Sem.run_bind,key _ g5,Result.andThen_ok,Sem.run_pure];rfl,?_⟩;simp only[Rep];exact .inr ⟨b,C,mx' -0,g1,by omega,by omega,by omega,.inr ⟨by simp,by omega,_,by rfl⟩⟩) kk
end
def AV.one:AV->Bool
 | .any=>false
 | .v (.agg _)=>false
 | .v (.tuple _)=>false
 | .ag _=>false
 | .tu _=>false
 |_=>true
def fB:AV->Option lXF
 | .ag cs=>cond (cs.all AV.one) (some cs) none
 |av=>cond av.one (some [av]) none
theorem JP{m:Mem}{γ:Gam}{av:AV}{x:Value}(h:Rep m γ av x)(h1:av.one=true):x.oneCell'=true/\x.cells= #[x]:=by
 cases av with
 |any=>simp[AV.one]at h1
 |v y=>simp only[Rep]at h;subst h;cases x<;>simp_all[AV.one,Value.oneCell',Value.cells]
 |sl S rows=>simp only[Rep]at h;obtain⟨a,len,cap,rfl,_⟩:=h;exact⟨rfl,rfl⟩
 |ag cs=>simp[AV.one]at h1
 |tu cs=>simp[AV.one]at h1
 |pt o off=>simp only[Rep]at h;obtain⟨b,C,_,rfl⟩:=h;exact⟨rfl,rfl⟩
 |pf cs=>simp only[Rep]at h;obtain⟨b,C,rfl,_⟩:=h;exact⟨rfl,rfl⟩
 |sr o S lo len=>simp only[Rep]at h;rcases h with⟨_,⟨ad,rfl⟩,_⟩|⟨b,C,cap,_,_,_,_,(rfl|⟨_,_,ad,rfl⟩)⟩<;>exact⟨rfl,rfl⟩
 |fn f fs cs=>simp only[Rep]at h;obtain⟨b,C,rfl,_⟩:=h;exact⟨rfl,rfl⟩
 |ifc t y=>simp only[Rep]at h;obtain⟨z,rfl,_⟩:=h;exact⟨rfl,rfl⟩
 |mp o=>simp only[Rep]at h;obtain⟨b,C,_,rfl⟩:=h;exact⟨rfl,rfl⟩
 |yl o=>simp only[Rep]at h;obtain⟨b,C,_,rfl⟩:=h;exact⟨rfl,rfl⟩
 |cl S rows=>simp only[Rep]at h;obtain⟨a,len,rfl,_⟩:=h;exact⟨rfl,rfl⟩
def mY{m:Mem}{γ:Gam}: ∀{cs:lXF}{xs:List Value},au m γ cs xs->cs.all AV.one=true-> ∀u∈xs,u.oneCell'=true
 |[],xs,h,_,u,hu=>by grind[au]
 |c::cs,xs,h,h1,u,hu=>by
  simp only[au]at h;obtain⟨x,r,rfl,h2,h3⟩:=h;simp only[agZ,afv]at h1;cases agc.1 hu with
  |inl e=>subst e;exact(JP h2 h1.1).1
  |inr e=>exact mY h3 h1.2 u e
def iF{m:Mem}{γ:Gam}{av:AV}{x:Value}{cs:lXF}(h:Rep m γ av x)(hc:fB av=some cs):au m γ cs x.cells.toList/\cs.all AV.one=true:=by
 have one: ∀(b:AV),b.one=true->Rep m γ b x->au m γ [b] x.cells.toList/\[b].all AV.one=true:=by intro b hb hr;refine⟨?_,by simp[hb]⟩;rw[(JP hr hb).2];grind[au]
 cases av with
 |ag ds=>grind[fB,Rep,Value.cells]
 |v y=>grind[fB]
 |any=>grind[fB]
 |tu cs=>grind[fB]
 |_=>grind[fB]
def eT(cells:lXF)(off:Nat)(cs:lXF):lXF:=cells.take off++cs++cells.drop (off+cs.length)
def spl:lXF->Nat->lXF->lXF
 |c::r,off+1,cs=>c::spl r off cs
 |_::r,0,d::ds=>d::spl r 0 ds
 |cells,_,_=>cells
theorem B3: ∀{cells:lXF}{off:Nat}{cs:lXF},off+cs.length<=cells.length->spl cells off cs=eT cells off cs
 |[],off,cs,h=>by simp_all[spl,eT]
 |c::r,off+1,cs,h=>by simp only[afX]at h;rw[spl,B3 oaa];simp[eT,show off+1+cs.length=off+cs.length+1 from by omega]
 |c::r,0,[],h=>by simp[spl,eT]
 |c::r,0,d::ds,h=>by simp only[afX]at h;rw[spl,B3 oaa];simp[eT]
def dT(γ:Gam)(o b C:Nat):Gam:=λk=>if k=o then some (some (b,C))else γ k
section
variable{P:Program}{m:Mem}{γ:Gam}{ob:lXE}{w:World}
theorem fS(hi:Inv m γ ob w)(b C:Nat):Le m γ [] m (dT γ ob.length b C):=by refine⟨λ_ _ h=>h,λo g hg _=> ?_⟩;have:=hi.len o oav;simp[dT,hg,show o≠ob.length by omega]
section
variable{m':Mem}{γ':Gam}
def n8(h:Le m γ [] m' γ'){av:AV}{x:Value}(hr:Rep m γ av x):Rep m' γ' av x:=fj h av x (AV.ei av) hr
def fK(h:Le m γ [] m' γ'){cs:lXF}{xs:List Value}(hr:au m γ cs xs):au m' γ' cs xs:=dQ h cs xs (dj cs) hr
theorem dU{w':World}{o:Nat}{X:Ob}(h:gP m γ w o X)(hle:Le m γ [] m' γ')(hheap: ∀b C,γ o=some (some (b,C))->w'.heap[b]? =w.heap[b]?)(hm: ∀b C,γ o=some (some (b,C))-> ∀off,m ⟨b,off,none⟩=none->m' ⟨b,off,none⟩=none):gP m' γ' w' o X:=by
 cases X with
 |dead=>trivial
 |box T cells=>obtain⟨b,cs,h1,h2,h3,h4⟩:=h;exact⟨b,cs,hle.gam o _ h1 rfl,by rw[hheap b 0 h1];exact h2,fK hle h3,λoff=>hm b 0 h1 off (h4 off)⟩
 |row T S rows=>
  rcases h with⟨h1,h2⟩|⟨b,C,cs,h1,h2,h3,h4,h5,h6,h7,h8⟩
  ·exact .inl ⟨hle.gam o _ h1 rfl,h2⟩
  ·exact .inr ⟨b,C,cs,hle.gam o _ h1 rfl,h2.of_eq (hheap b C h1),h3,h4,h5,h6,fK hle h7,λoff=>hm b C h1 off (h8 off)⟩
 |mp keys vals=>obtain⟨b,es,clock,h1,h2,h3,h4,h5⟩:=h;exact⟨b,es,clock,hle.gam o _ h1 rfl,by rw[hheap b 0 h1];exact h2,h3,fK hle h4,λoff=>hm b 0 h1 off (h5 off)⟩
 |lp busy k ts cs=>obtain⟨b,r,xs,h1,h2,h3,h4,h5,h6⟩:=h;exact⟨b,r,xs,hle.gam o _ h1 rfl,by rw[hheap b 0 h1];exact h2,h3,fK hle h4,h5,λoff=>hm b 0 h1 off (h6 off)⟩
end
theorem alloc_old(w:World)(o:Obj){k:Nat}(h:k<w.heap.size):(w.alloc o).heap[k]? =w.heap[k]? :=heap_alloc_old w o h
theorem sz(hi:Inv m γ ob w)(o:Obj)(a:Addr)(x:Value)(h:m a=some x):(w.alloc o).cell? a=some x:=by have h1:=hi.mem a x h;grind[World.cell?_alloc_lt,World.block_lt_of_cell?]
theorem jD(hi:Inv m γ ob w){b:Nat}(hb:w.heap.size<=b)(off:Nat):m ⟨b,off,none⟩=none:=by
 cases h:m ⟨b,off,none⟩with
 |none=>rfl
 |some x=>have:=World.block_lt_of_cell? w _ (hi.mem _ _ h);simp at this;omega
theorem n9(hi:Inv m γ ob w)(O:Obj)(C:Nat)(X:Ob)(hX:gP m (dT γ ob.length w.heap.size C) (w.alloc O) ob.length X):Inv m (dT γ ob.length w.heap.size C) (ob++ [X]) (w.alloc O)/\Trans m γ w m (dT γ ob.length w.heap.size C) (w.alloc O):=by
 have hold: ∀o,o<ob.length->dT γ ob.length w.heap.size C o=γ o:=λo ho=>by simp[dT,show o≠ob.length by omega]
 have hlv: ∀o,live (ob++ [X]) o->o<ob.length->live ob o:=by rintro o ⟨Y,hY,hne⟩ ho;rw[afO ho]at hY;exact⟨Y,hY,hne⟩
 have hlt: ∀o,live (ob++ [X]) o->o<=ob.length:=by rintro o ⟨Y,hY,_⟩;have:=(afF.1 hY).1;simp at this;omega
 refine⟨⟨sz hi O,λo Y hY=> ?_,λo o' b D D' h1 h2 h3 h4=> ?_,λo b D h=> ?_,λo ho=> ?_,hi.tab.old λk hk=>alloc_old w O hk⟩,?_⟩
 ·by_cases ho:o<ob.length
  ·rw[afO ho]at hY;exact dU (hi.obj o Y hY) (fS hi _ _) (λb D hb=>alloc_old w O<|hi.dom o b D hb) (λ_ _ _ _ h=>h)
  ·have:=(afF.1 hY).1;have hoe:o=ob.length:=by simp at this;omega
   subst hoe;rw[agb (afG _)]at hY;simp at hY;subst hY;exact hX
 ·have a1:=hlt o h1;have a2:=hlt o' h2;by_cases e1:o=ob.length
  ·by_cases e2:o'=ob.length
   ·rw[e1,e2]
   ·rw[hold o' oaa]at h4;rw[e1]at h3;simp only[dT,agL,afD,afW]at h3;have:=hi.dom _ _ _ h4;omega
  ·rw[hold o oaa]at h3;by_cases e2:o'=ob.length
   ·rw[e2]at h4;simp only[dT,agL,afD,afW]at h4;have:=hi.dom _ _ _ h3;omega
   ·rw[hold o' oaa]at h4;exact hi.sep o o' b D D' (hlv o h1 oaa) (hlv o' h2 oaa) h3 h4
 ·simp only[World.size_alloc];by_cases e:o=ob.length
  ·subst e;simp only[dT,agL,afD,afW]at h;omega
  ·simp only[dT,e,if_false]at h;have:=hi.dom _ _ _ h;omega
 ·by_cases e:o=ob.length
  ·simp[e]
  ·simp only[dT,e,if_false]at ho;have:=hi.len o ho;simp;omega
 ·refine⟨λ_ _ h=>h,λ_ _ h=> .inl h,?_,rfl,rfl,rfl,by simp,λk hk _=>alloc_old w O hk⟩;rintro k hk ⟨o,D,h⟩;by_cases e:o=ob.length
  ·subst e;simp only[dT,agL,afD,afW]at h;omega
  ·simp only[dT,e,if_false]at h;exact⟨o,D,h⟩
theorem wu(hi:Inv m γ ob w)(T:TypeId){cells:lXF}{cs:Array Value}(hr:au m γ cells cs.toList):Inv m (dT γ ob.length w.heap.size 0) (ob++ [.box T cells]) (w.alloc<|.cells cs T)/\Trans m γ w m (dT γ ob.length w.heap.size 0) (w.alloc<|.cells cs T):=by refine n9 hi _ 0 _ ⟨w.heap.size,cs,by simp[dT],heap_alloc_new w _,fK (fS hi _ _) hr,λoff=>jD hi (afG _) off⟩
end
section
variable{P:Program}{n:Nat}{ops:Array Oper}{l:List Oper}{L:Loc}{ob:lXE}{kf:List Rec->Loc->lXE->Prop}{gu:Loc}
variable{dst:Option Nat}{ty:TypeId}{pos:String}{after:Array Edge}{guard:Option (Nat×Bool)}
theorem eU{m:Mem}{γ:Gam}: ∀(vs:List Value),au m γ (vs.map .v) vs
 |[]=>by simp[au]
 |v::vs=>by simp only[afZ,au,Rep];exact⟨v,vs,rfl,rfl,eU vs⟩
theorem PD{T:TypeId}{zs:List Value}(N:Nat)(ob1:lXE)(hz:zer P T=some zs)(hN:ob.length=N)(hob:ob++ [.box T (zs.map .v)]=ob1)(hg:Gd ops L guard gu)(hn: ∀d,dst=some d->d<n)(kk:EvK P n ops l (cN L dst (.pt N 0) []) ob1 (λrecs=>kf (⟨dst,gu++cg [],.pt N 0,[],.write⟩::recs))):EvK P n ops (⟨dst,.alloc T,ty,pos,after,guard⟩::l) L ob kf:=
 by
 subst hN;subst hob;exact ki (o:=⟨dst,.alloc T,ty,pos,after,guard⟩) [] [] trivial hg hn (λm γ w a K Q hi _ hK=>by
  unfold zer at hz;cases hinf:P.info? T with
  |none=>simp[hinf]at hz
  |some i=>
   simp only[hinf]at hz;cases hzz:i.zero with
   |none=>simp[hzz]at hz
   |some z=>
    simp only[hzz,afV,afD]at hz;subst hz;obtain⟨h1,h2⟩:=wu hi T (cells:=z.cells.toList.map .v) (cs:=z.cells) (eU _);have hrun:(execOp a.eval ⟨dst,.alloc T,ty,pos,after,guard⟩).run P w= .ok (.value<|.pointer<|some ⟨w.heap.size,0,none⟩) (w.alloc<|.cells z.cells T):=by simp_all[execOp,Instr.alloc,zeroValue,typeInfo,newVar,newRow]
    unfold Oper.wp;rw[hrun,Oper.upon_value];exact hK _ _ _ _ h2 (fS hi _ _) h1<|by grind[Rep,dT]) kk
theorem ac1{T:TypeId}{x:Operand}{av:AV}{cs:lXF}(N:Nat)(ob1:lXE)(hx:aX L x=some av)(hc:fB av=some cs)(hN:ob.length=N)(hob:ob++ [.box T cs]=ob1)(hg:Gd ops L guard gu)(hn: ∀d,dst=some d->d<n)(kk:EvK P n ops l (cN L dst (.pt N 0) []) ob1 (λrecs=>kf<|⟨dst,gu++cg [(x,av)],.pt N 0,[],.write⟩::recs)):EvK P n ops (⟨dst,.box T x,ty,pos,after,guard⟩::l) L ob kf:=
 by
 subst hN;subst hob;exact ki (o:=⟨dst,.box T x,ty,pos,after,guard⟩) [] [(x,av)] ⟨hx,trivial⟩ hg hn (λm γ w a K Q hi h hK=>by
  obtain⟨h1,h2⟩:=wu hi T (iF h.1 hc).1;have hrun:(execOp a.eval ⟨dst,.box T x,ty,pos,after,guard⟩).run P w= .ok (.value<|.pointer<|some ⟨w.heap.size,0,none⟩) (w.alloc<|.cells (a.eval x).cells T):=by rfl
  unfold Oper.wp;rw[hrun,Oper.upon_value];exact hK _ _ _ _ h2 (fS hi _ _) h1<|by grind[Rep,dT]) kk
end
def e8(ks:lXC)(c:AV):AV:=cond (c.free ks) c .any
def mc(ks:lXC):Ob->Ob
 | .dead=> .dead
 | .box T cells=> .box T (cells.map<|e8 ks)
 | .row T S rows=> .row T S (rows.map λr=>r.map<|e8 ks)
 | .mp keys vals=> .mp keys (vals.map<|e8 ks)
 | .lp busy k ts cs=> .lp busy k ts (cs.map<|e8 ks)
def B4{m m':Mem}{γ γ':Gam}{ks:lXC}(h:Le m γ ks m' γ'){c:AV}{x:Value}(hr:Rep m γ c x):Rep m' γ' (e8 ks c) x:=by grind[e8,fj,Rep]
theorem fT{m m':Mem}{γ γ':Gam}{ks:lXC}(h:Le m γ ks m' γ'): ∀{cs:lXF}{xs:List Value},au m γ cs xs->au m' γ' (cs.map<|e8 ks) xs
 |[],xs,hr=>by simpa [au]using hr
 |c::cs,xs,hr=>by simp only[au]at hr;obtain⟨x,r,rfl,h2,h3⟩:=hr;simp only[afZ,au];exact⟨x,r,rfl,B4 h h2,fT h h3⟩
def JQ{m m':Mem}{γ γ':Gam}{w w':World}{ks:lXC}{o:Nat}{X:Ob}(h:gP m γ w o X)(hle:Le m γ ks m' γ')(hk:ks.contains o=false)(hheap: ∀b C,γ o=some (some (b,C))->w'.heap[b]? =w.heap[b]?)(hm: ∀b C,γ o=some (some (b,C))-> ∀off,m ⟨b,off,none⟩=none->m' ⟨b,off,none⟩=none):gP m' γ' w' o (mc ks X):=by
 cases X with
 |dead=>trivial
 |box T cells=>obtain⟨b,cs,h1,h2,h3,h4⟩:=h;exact⟨b,cs,hle.gam o _ h1 hk,by rw[hheap b 0 h1];exact h2,fT hle h3,λoff=>hm b 0 h1 off (h4 off)⟩
 |row T S rows=>
  rcases h with⟨h1,h2⟩|⟨b,C,cs,h1,h2,h3,h4,h5,h6,h7,h8⟩
  ·exact .inl ⟨hle.gam o _ h1 hk,by subst h2;rfl⟩
  ·refine .inr ⟨b,C,cs,hle.gam o _ h1 hk,h2.of_eq (hheap b C h1),h3,by simpa using h4,h5,?_,?_,λoff=>hm b C h1 off (h8 off)⟩
   ·simp_all
   grind[fT]
 |mp keys vals=>obtain⟨b,es,clock,h1,h2,h3,h4,h5⟩:=h;exact⟨b,es,clock,hle.gam o _ h1 hk,by rw[hheap b 0 h1];exact h2,h3,fT hle h4,λoff=>hm b 0 h1 off (h5 off)⟩
 |lp busy k ts cs=>obtain⟨b,r,xs,h1,h2,h3,h4,h5,h6⟩:=h;exact⟨b,r,xs,hle.gam o _ h1 hk,by rw[hheap b 0 h1];exact h2,h3,fT hle h4,h5,λoff=>hm b 0 h1 off (h6 off)⟩
theorem Le.refl(m:Mem)(γ:Gam)(ks:lXC):Le m γ ks m γ:=⟨λ_ _ h=>h,λ_ _ h _=>h⟩
section
variable{P:Program}{m:Mem}{γ:Gam}{ob:lXE}{w:World}
theorem Av(hi:Inv m γ ob w){b:Nat}(hm: ∀off,m ⟨b,off,none⟩=none){a:Addr}{x:Value}(h:m a=some x):a.block≠b:=by intro e;have h1:=hi.mem a x h;have hs:=World.cell?_spot h1;obtain⟨bb,off,sp⟩:=a;simp_all
theorem vA(hi:Inv m γ ob w){o b C:Nat}{X X':Ob}(ho:ob[o]? =some X)(hX:X≠ .dead)(hg:γ o=some (some (b,C)))(hm: ∀off,m ⟨b,off,none⟩=none){w':World}(hother: ∀k,k≠b->w'.heap[k]? =w.heap[k]?)(hsz:w'.heap.size=w.heap.size)(hos:w'.os=w.os)(htape:w'.tape=w.tape)(hout:w'.output=w.output)(ks:lXC)(hX':gP m γ w' o X'):Inv m γ ((ob.map<|mc ks).set o X') w'/\Inv m γ (ob.set o X') w'/\Trans m γ w m γ w':=by
 have hlen:o<ob.length:=(afF.1 ho).1;have hlv: ∀(f:Ob->Ob),(∀Y,f Y= .dead↔Y= .dead)-> ∀k,live ((ob.map f).set o X') k->live ob k:=by
  rintro f hf k ⟨Y,hY,hne⟩;by_cases hko:o=k
  ·subst hko;exact⟨X,ho,hX⟩
  ·rw[af1 hko,afM]at hY;cases hk:ob[k]? with
   |none=>simp[hk]at hY
   |some Z=>rw[hk]at hY;simp only[afV,afD]at hY;exact⟨Z,hk,λe=>hne (by rw[<-hY];exact(hf Z).2 e)⟩
 have gen: ∀(f:Ob->Ob),(∀Y,f Y= .dead↔Y= .dead)->(∀k Y,ob[k]? =some Y->k≠o->gP m γ w' k (f Y))->Inv m γ ((ob.map f).set o X') w':=by
  intro f hf hob;refine⟨λa x h=> ?_,λk Y hY=> ?_,λk k' b D D' h1 h2=>hi.sep k k' b D D' (hlv f hf k h1) (hlv f hf k' h2),λk b D h=>by rw[hsz];exact hi.dom k b D h,λk h=>by simpa using hi.len k h,hi.tab.but m hm λk _ h=>hother k h⟩
  ·rw[World.cell?_of_block (hother _<|Av hi hm h)];exact hi.mem a x h
  ·by_cases hko:o=k
   ·subst hko;rw[agi (by simpa using hlen)]at hY;cases hY;exact hX'
   ·rw[af1 hko,afM]at hY;cases hk:ob[k]? with
    |none=>simp[hk]at hY
    |some Z=>rw[hk]at hY;simp only[afV,afD]at hY;subst hY;exact hob k Z hk (λe=>hko e.symm)
 have heap: ∀k Y,ob[k]? =some Y->k≠o->Y≠ .dead-> ∀b' C',γ k=some (some (b',C'))->w'.heap[b']? =w.heap[b']? :=by intro k Y hk hko hYd b' C' hb;refine hother b' λe=> ?_;subst e;exact hko (hi.sep k o b' C' C ⟨Y,hk,hYd⟩ ⟨X,ho,hX⟩ hb hg)
 refine⟨gen (mc ks) (λY=>by cases Y<;>simp[mc]) ?_,?_,?_⟩
 ·intro k Y hk hko;by_cases hYd:Y= .dead
  ·subst hYd;trivial
  ·have h1:=hi.obj k Y hk;cases Y with
   |dead=>exact absurd rfl hYd
   |box T cells=>obtain⟨b',cs,g1,g2,g3,g4⟩:=h1;exact⟨b',cs,g1,by rw[heap k _ hk hko hYd b' 0 g1];exact g2,fT (Le.refl m γ ks) g3,g4⟩
   |row T S rows=>
    rcases h1 with⟨g1,g2⟩|⟨b',C',cs,g1,g2,g3,g4,g5,g6,g7,g8⟩
    ·exact .inl ⟨g1,by subst g2;rfl⟩
    ·refine .inr ⟨b',C',cs,g1,g2.of_eq (heap k _ hk hko hYd b' C' g1),g3,by simpa using g4,g5,?_,?_,g8⟩
     ·intro r hr;obtain⟨q,hq,rfl⟩:=agl.1 hr;simpa using g6 q hq
     ·have:=fT (Le.refl m γ ks) g7;rw[<-List.map_flatten];simpa using this
   |mp keys vals=>obtain⟨b',es,clock,g1,g2,g3,g4,g5⟩:=h1;exact⟨b',es,clock,g1,by rw[heap k _ hk hko hYd b' 0 g1];exact g2,g3,fT (Le.refl m γ ks) g4,g5⟩
   |lp busy kc ts cs=>obtain⟨b',r,xs,g1,g2,g3,g4,g5,g6⟩:=h1;exact⟨b',r,xs,g1,by rw[heap k _ hk hko hYd b' 0 g1];exact g2,g3,fT (Le.refl m γ ks) g4,g5,g6⟩
 ·have:=gen id (λY=>Iff.rfl) λk Y hk hko=>by
   by_cases hYd:Y= .dead
   ·subst hYd;trivial
   ·exact dU (hi.obj k Y hk) (Le.refl m γ []) (heap k Y hk hko hYd) (λ_ _ _ _ h=>h)
  simpa using this
 ·refine⟨λ_ _ h=>h,λ_ _ h=> .inl h,λ_ _ h=>h,hos,htape,hout,by omega,λk hk hn=>hother k λe=>hn ⟨o,C,by rw[e];exact hg⟩⟩
theorem mZ{cells cs:lXF}{xs ys:List Value}{off:Nat}(h:au m γ cells xs)(k:au m γ cs ys):au m γ (eT cells off cs) (xs.take off++ys++xs.drop (off+ys.length)):=by grind[aZ,eT,cu,dG,eG]
theorem hH(P:Program)(g o:Nat)(t:TypeId)(fz:Nat×Nat): ∀(vs:List Value)(i:Nat)(cur:Array Value)(w:World),w.heap[g]? =some (.cells cur t fz)->(fz=(0,0)\/fz.1=cur.size)->o+i+vs.length<=cur.size->(∀v∈vs,v.oneCell'=true)->(storeCells ⟨g,o,none⟩ vs i).run P w= .ok () (w.setRow g (cur.toList.take (o+i)++vs++cur.toList.drop (o+i+vs.length)).toArray)
 |[],i,cur,w,hg,_,_,_=>by simp only[storeCells,agG,af6,Nat.add_zero,ags,Array.toArray_toList];rw[setRow_self w g cur t fz hg];rfl
 |v::rest,i,cur,w,hg,hfz,hl,h1=>by
  have hi:o+i<cur.size:=by simp at hl;omega
  have hadd:(⟨g,o,none⟩:Addr).add i=⟨g,o+i,none⟩:=by unfold Addr.add;split<;>simp_all
  have hcell:w.cell? ⟨g,o+i,none⟩=some cur[o+i]:=by simp[World.cell?,hg,hi]
  have hfro:w.frozen? ⟨g,o+i,none⟩=false:=by grind[World.frozen?]
  have hst:(store ((⟨g,o,none⟩:Addr).add i) v).run P w= .ok () (w.setRow g<|cur.setIfInBounds (o+i) v):=by grind[run_store,setCell_eq_setRow]
  have ih:=hH P g o t fz rest (i+1) (cur.setIfInBounds (o+i) v) (w.setRow g<|cur.setIfInBounds (o+i) v) (setRow_heap w g cur _ t _ hg) (by simpa using hfz) (by simp at hl⊢;omega) (λx hx=>h1 x<|by simp[hx]);simp only[storeCells,Sem.run_bind,hst,Result.andThen_ok,ih,setRow_setRow];congr 3;have e:=list_seg_step cur.toList (o+i) v rest (by simp at hl⊢;omega);simp_all[Nat.add_assoc]
theorem CA.setRow{w:World}{b:Nat}{cur arr:Array Value}{T:TypeId}(h:CA w b cur T)(hs:arr.size=cur.size):CA (w.setRow b arr) b arr T:=by obtain⟨fr,h1,h2⟩:=h;exact⟨fr,setRow_heap w b cur arr T fr h1,h2.imp id λe=>e.trans hs.symm⟩
theorem qu{t:TypeId}{g:Bool}{k:Nat}(h:tyk P t=some (g,k)){b off:Nat}{cur:Array Value}{T:TypeId}(hg:CA w b cur T){x:Value}(hs:x.cells.size=k)(h1: ∀u∈x.cells.toList,u.oneCell'=true)(hfit:off+k<=cur.size):∃arr:Array Value,arr.toList=cur.toList.take off++x.cells.toList++cur.toList.drop (off+x.cells.toList.length)/\(storeVar t ⟨b,off,none⟩ x).run P w= .ok () (w.setRow b arr):=by obtain⟨fr,hg1,hg2⟩:=hg;have hst:=hH P b off T fr x.cells.toList 0 cur w hg1 hg2 (by simpa [hs]using hfit) h1;simp only[Nat.add_zero]at hst;exact⟨_,List.toList_toArray,by simp[storeVar,run_sizeOf h,hs,hst]⟩
end
theorem iW{S:Nat}: ∀{q:List lXF},(∀r∈q,r.length=S)->q.flatten.length=q.length*S
 |[],_=>by simp
 |r::q,h=>by simp only[agw,afS,afX];rw[iW (λr' hr'=>h r'<|af9 _ hr'),h r oaf,agD];omega
def tP{S:Nat}{cs row:lXF}{j:Nat}: ∀{rows:List lXF}{i:Nat},(∀r∈rows,r.length=S)->rows[i]? =some row->j+cs.length<=S->(rows.set i<|eT row j cs).flatten=eT rows.flatten (i*S+j) cs
 |[],i,_,h,_=>by simp at h
 |r::rs,0,hS,h,hj=>by grind[eT]
 |r::rs,i+1,hS,h,hj=>by have hr:=hS r oaf;have ih:=tP (rows:=rs) (i:=i) (λq hq=>hS q<|af9 _ hq) oaN hj;rw[List.set_cons_succ,agw,ih];simp only[eT,agw];rw[show(i+1)*S+j=r.length+(i*S+j)from by rw[agD];omega,Nat.add_assoc r.length,List.take_length_add_append,List.drop_length_add_append];simp[agJ]
theorem nc{S:Nat}{row:lXF}: ∀{rows:List lXF}{i:Nat},(∀r∈rows,r.length=S)->rows[i]? =some row->(rows.flatten.drop<|i*S).take S=row
 |[],i,_,h=>by simp at h
 |r::rs,0,hS,h=>by simp_all
 |r::rs,i+1,hS,h=>by have hr:=hS r oaf;have ih:=nc (rows:=rs) (i:=i) (λq hq=>hS q<|af9 _ hq) oaN;simp only[agw];rw[show(i+1)*S=r.length+i*S from by rw[agD];omega,List.drop_length_add_append];exact ih
theorem EL{cur xs:List Value}{off N:Nat}(h:off+xs.length<=N)(hN:N<=cur.length):(cur.take off++xs++cur.drop (off+xs.length)).take N=(cur.take N).take off++xs++(cur.take N).drop (off+xs.length):=by
 have hA:(cur.take N).length=N:=by simp;omega
 have hcur:=ags N cur;generalize cur.take N=A at hA hcur⊢;generalize cur.drop N=B at hcur;subst hcur;have e1:(A++B).take off=A.take off:=List.take_append_of_le_length oaa;have e2:(A++B).drop (off+xs.length)=A.drop (off+xs.length)++B:=List.drop_append_of_le_length oaa;grind[agd]
section
variable{P:Program}{n:Nat}{ops:Array Oper}{l:List Oper}{L:Loc}{ob:lXE}{kf:List Rec->Loc->lXE->Prop}{gu:Loc}
variable{dst:Option Nat}{ty:TypeId}{pos:String}{after:Array Edge}{guard:Option (Nat×Bool)}
theorem pr{o:Oper}{a:Act}{K:Act->World->Prop}{Q:Exit->Act->World->Prop}{w w':World}(h:(execOp a.eval o).run P w= .ok .skip w')(hk:K (a.put o.dst undef) w'):o.wp P a w K Q:=by grind[Oper.wp,Oper.upon_skip]
theorem B5(cells':lXF)(ob1:lXE){T:TypeId}{p x:Operand}{av:AV}{g:Bool}{k o off:Nat}{Tb:TypeId}{cells cs:lXF}(ht:tyk P T=some (g,k))(hp:aX L p=some (.pt o off))(hx:aX L x=some av)(hc:fB av=some cs)(hlen:cs.length=k)(ho:ob[o]? =some (.box Tb cells))(hfit:off+k<=cells.length)(hsp:spl cells off cs=cells')(hob:ob.set o (.box Tb cells')=ob1)(hg:Gd ops L guard gu)(hn: ∀d,dst=some d->d<n)(kk:EvK P n ops l (cN L dst .any []) ob1 (λrecs=>kf<|⟨dst,gu++cg [(p,.pt o off),(x,av)],.any,[],.st o (.box Tb cells) (.box Tb cells')⟩::recs)):EvK P n ops (⟨dst,.store T p x,ty,pos,after,guard⟩::l) L ob kf:=
 by
 rw[B3 oaa]at hsp;subst hob;subst hsp;exact JO (o:=⟨dst,.store T p x,ty,pos,after,guard⟩) ho [(p,.pt o off),(x,av)] ⟨hp,hx,trivial⟩ hg hn (λob m γ w a K Q ho hi h hK=>by
  obtain⟨h1,h2,_⟩:=h;obtain⟨b,C,g1,g2⟩:=gm h1;obtain⟨b',cur,k1,k2,k3,k4⟩:=hi.obj o _ ho;rw[g1]at k1;cases k1;obtain⟨r1,r2⟩:=iF h2 hc;have hl1:=aZ r1;have hl2:=aZ k3;obtain⟨arr,ha,hst⟩:=qu (P:=P) ht (CA.mS k2) (x:=a.eval x) (by simpa [hlen]using hl1) (mY r1 r2) (off:=off) (by simp at hl2;omega);have hsp:=mZ (off:=off) k3 r1;rw[<-ha]at hsp;obtain⟨_,i2,i3⟩:=vA hi (X':= .box Tb<|eT cells off cs) ho oaf g1 k4 (λq hq=>setRow_other w b q _ hq) (by simp[World.setRow]) rfl rfl rfl []
   ⟨b,arr,g1,setRow_heap w b cur _ Tb (0,0) k2,hsp,k4⟩
  refine pr ?_ (hK m γ _ undef i3 (Le.refl _ _ _) i2<|by simp[Rep]);grind[execOp,Instr.storeAt,Instr.sureAddr,Sem.run_bind,Sem.run_pure,Result.andThen_ok]) kk
theorem B6{T E:TypeId}{p x:Operand}{av:AV}{g:Bool}{k o off S i j:Nat}{rows:List lXF}{row cs:lXF}(ht:tyk P T=some (g,k))(hp:aX L p=some (.pt o off))(hx:aX L x=some av)(hc:fB av=some cs)(hlen:cs.length=k)(ho:ob[o]? =some (.row E S rows))(hoff:off=i*S+j)(hrow:rows[i]? =some row)(hfit:j+k<=S)(hg:Gd ops L guard gu)(hn: ∀d,dst=some d->d<n)(kk:EvK P n ops l (cN L dst .any []) (ob.set o<|.row E S<|rows.set i<|eT row j cs) (λrecs=>kf<|⟨dst,gu++cg [(p,.pt o off),(x,av)],.any,[],.st o (.row E S rows) (.row E S<|rows.set i<|eT row j cs)⟩::recs)):EvK P n ops (⟨dst,.store T p x,ty,pos,after,guard⟩::l) L ob kf:=
 JO (o:=⟨dst,.store T p x,ty,pos,after,guard⟩) ho [(p,.pt o off),(x,av)] ⟨hp,hx,trivial⟩ hg hn (λob m γ w a K Q ho hi h hK=>by
  obtain⟨h1,h2,_⟩:=h;obtain⟨b,C,g1,g2⟩:=gm h1;have hil:i<rows.length:=(afF.1 hrow).1;rcases hi.obj o _ ho with⟨_,e⟩|⟨b',C',cur,k1,k2,k3,k4,k5,k6,k7,k8⟩
  ·rw[e]at hil;simp at hil
  rw[g1]at k1;cases k1;obtain⟨r1,r2⟩:=iF h2 hc;have hl1:=aZ r1;have hSr:row.length=S:=k6 row (agm hrow);have hiS:i*S+S<=rows.length*S:=by have:(i+1)*S<=rows.length*S:=agu _ hil;rw[agD]at this;omega
  have hCS:rows.length*S<=C*S:=agu _ k4;obtain⟨arr,ha,hst⟩:=qu (P:=P) ht k2 (x:=a.eval x) (by simpa [hlen]using hl1) (mY r1 r2) (off:=off) oaa;have hflat:=tP (cs:=cs) (j:=j) k6 hrow oaa;rw[<-hoff]at hflat;have hN:off+(a.eval x).cells.toList.length<=rows.length*S:=by omega
  have hsp:=mZ (off:=off) k7 r1;rw[<-EL hN oau,<-ha,<-hflat]at hsp;obtain⟨_,i2,i3⟩:=vA hi (X':= .row E S<|rows.set i<|eT row j cs) ho oaf g1 k8 (λq hq=>setRow_other w b q _ hq) (by simp[World.setRow]) rfl rfl rfl []
   (.inr ⟨b,C,arr,g1,k2.setRow (by
    have:arr.size=arr.toList.length:=by simp
    rw[this,ha];have:cur.size=cur.toList.length:=by simp
    simp only[afS,agh,ag2];omega),by
    have:arr.size=arr.toList.length:=by simp
    rw[this,ha,<-k3];have:cur.size=cur.toList.length:=by simp
    simp only[afS,agh,ag2];omega,by simpa using k4,k5,λr hr=>by
    rcases agV hr with h|h
    ·exact k6 r h
    ·rw[h];unfold eT;simp only[afS,agh,ag2];omega,by simpa using hsp,k8⟩)
  refine pr ?_ (hK m γ _ undef i3 (Le.refl _ _ _) i2<|by simp[Rep]);simp only[execOp,g2,Instr.storeAt,Instr.sureAddr,Sem.run_bind,Sem.run_pure,Result.andThen_ok,hst]) kk
theorem Aw{m:Mem}{γ:Gam}{w:World}(hi:Inv m γ ob w){o S i:Nat}{E:TypeId}{rows:List lXF}{row:lXF}(ho:ob[o]? =some (.row E S rows))(hrow:rows[i]? =some row){off:Nat}{x:Value}(hx:Rep m γ (.pt o off) x):∃b xs,x= .pointer (some ⟨b,off,none⟩)/\au m γ row xs/\row.length=S/\ ∀j v,xs[j]? =some v->w.cell? ⟨b,i*S+j,none⟩=some v:=by
 obtain⟨b,C,g1,g2⟩:=gm hx;have hil:i<rows.length:=(afF.1 hrow).1;rcases hi.obj o _ ho with⟨_,e⟩|⟨b',C',cur,k1,k2,k3,k4,k5,k6,k7,k8⟩
 ·rw[e]at hil;simp at hil
 rw[g1]at k1;cases k1;have hSr:row.length=S:=k6 row (agm hrow);have hiS:i*S+S<=rows.length*S:=by have:(i+1)*S<=rows.length*S:=agu _ hil;rw[agD]at this;omega
 have hr:=dG (eG k7<|i*S) S;grind[nc,k2.cell]
section
variable{t E:TypeId}{x:Operand}{o off k S i j:Nat}{rows:List lXF}{row:lXF}
theorem uz(ht:tyk P t=some (true,k))(hx:aX L x=some (.pt o off))(ho:ob[o]? =some (.row E S rows))(hoff:off=i*S+j)(hrow:rows[i]? =some row)(hk:j+k<=S)(hg:Gd ops L guard gu)(hn: ∀d,dst=some d->d<n)(kk:EvK P n ops l (cN L dst (.ag<|(row.drop j).take k) []) ob (λrecs=>kf<|⟨dst,gu++cg [(x,.pt o off)],.ag ((row.drop j).take k),[],.rd o (.row E S rows)⟩::recs)):EvK P n ops (⟨dst,.load t x,ty,pos,after,guard⟩::l) L ob kf:=
 wj (o:=⟨dst,.load t x,ty,pos,after,guard⟩) ho [(x,.pt o off)] ⟨hx,trivial⟩ hg hn (λob m γ w a ho hi h=>by
  obtain⟨b,xs,e1,e2,e3,e4⟩:=Aw hi ho hrow h.1;have hr:=dG (eG e2 j) k;subst hoff;have:=jg (P:=P) (w:=w) ht (b:=b) (off:=i*S+j) (xs:=(xs.drop j).take k) (λq v hv=>by
   rw[agp]at hv;split at hv
   ·rw[agN]at hv;rw[show i*S+j+q=i*S+(j+q)from by omega];exact e4 _ v hv
   ·cases hv) (by rw[aZ hr];simp;omega)
  exact⟨_,by simp[execOp,e1,Instr.loadAt,Instr.sureAddr,this];rfl,by simp only[Rep];exact⟨_,rfl,hr⟩⟩) kk
theorem uA{c:AV}(ht:tyk P t=some (false,k))(hx:aX L x=some (.pt o off))(ho:ob[o]? =some (.row E S rows))(hoff:off=i*S+j)(hrow:rows[i]? =some row)(hc:row[j]? =some c)(hg:Gd ops L guard gu)(hn: ∀d,dst=some d->d<n)(kk:EvK P n ops l (cN L dst c []) ob (λrecs=>kf<|⟨dst,gu++cg [(x,.pt o off)],c,[],.rd o (.row E S rows)⟩::recs)):EvK P n ops (⟨dst,.load t x,ty,pos,after,guard⟩::l) L ob kf:=wj (o:=⟨dst,.load t x,ty,pos,after,guard⟩) ho [(x,.pt o off)] ⟨hx,trivial⟩ hg hn (λob m γ w a ho hi h=>by obtain⟨b,xs,e1,e2,e3,e4⟩:=Aw hi ho hrow h.1;obtain⟨y,hy,hr⟩:=bX e2 j c hc;simp_all[jh,execOp,Instr.loadAt,Instr.sureAddr]) kk
end
end
inductive EvP(L:Loc):List (Nat×Operand)->List (Nat×AV)->List (Operand×AV)->Prop
 |nil:EvP L [] [] []
 |cons {i:Nat} {x:Operand} {av:AV} {ps:List (Nat×Operand)} {avs:List (Nat×AV)} {xs:List (Operand×AV)} (h:aX L x=some av) (r:EvP L ps avs xs):EvP L ((i,x)::ps) ((i,av)::avs) ((x,av)::xs)
inductive EvA(L:Loc):List Operand->lXF->List (Operand×AV)->Prop
 |nil:EvA L [] [] []
 |cons {x:Operand} {av:AV} {ps:List Operand} {avs:lXF} {xs:List (Operand×AV)} (h:aX L x=some av) (r:EvA L ps avs xs):EvA L (x::ps) (av::avs) ((x,av)::xs)
def vB{L:Loc}{ps:List (Nat×Operand)}{avs:List (Nat×AV)}{xs:List (Operand×AV)}(h:EvP L ps avs xs):dV L xs:=by
 induction h with
 |nil=>trivial
 |cons h _ ih=>exact⟨h,ih⟩
def jy{L:Loc}{ps:List Operand}{avs:lXF}{xs:List (Operand×AV)}(h:EvA L ps avs xs):dV L xs:=by
 induction h with
 |nil=>trivial
 |cons h _ ih=>exact⟨h,ih⟩
theorem jN{L:Loc}{m:Mem}{γ:Gam}{a:Act}{ps:List Operand}{avs:lXF}{xs:List (Operand×AV)}(h:EvA L ps avs xs)(hr:gZ m γ a xs):au m γ avs (ps.map a.eval):=by
 induction h with
 |nil=>simp[au]
 |cons h _ ih=>simp only[afZ,au];exact⟨_,_,rfl,hr.1,ih hr.2⟩
def wv(place:List (Nat×Nat)):lXF->List (Nat×AV)->Option lXF
 |cells,[]=>some cells
 |cells,(i,av)::r=>match place[i]?,fB av with
  |some (off,size),some cs=>cond (Nat.beq cs.length size&&Nat.ble (off+size) cells.length) (wv place (spl cells off cs) r) none
  |_,_=>none
theorem kN: ∀(vs:List Value)(k off:Nat)(cur:Array Value)(p:Nat),
  ((vs.zipIdx k).foldl (λcs q=>cs.setIfInBounds (off+q.2) q.1) cur)[p]? =if off+k<=p/\p<off+k+vs.length/\p<cur.size then vs[p-(off+k)]? else cur[p]?
 |[],k,off,cur,p=>by simp;omega
 |v::vs,k,off,cur,p=>by simp only[List.zipIdx_cons,List.foldl_cons];rw[kN vs (k+1) off];grind
def Ax{m:Mem}{γ:Gam}{a:Act}{L:Loc}{place:List (Nat×Nat)}{ps:List (Nat×Operand)}{avs:List (Nat×AV)}{xs:List (Operand×AV)}(hp:EvP L ps avs xs)(hr:gZ m γ a xs):∀{cells cells':lXF}{cur:Array Value},au m γ cells cur.toList->wv place cells avs=some cells' -> ∃cur',Instr.fill (place.toArray[·]?) cur (ps.map λp=>(p.1,a.eval p.2))=some cur'/\au m γ cells' cur'.toList:=by
 induction hp with
 |nil=>intro cells cells' cur hc hf;simp only[wv,afD]at hf;subst hf;exact⟨cur,rfl,hc⟩
 | @cons i x av ps avs xs h _ ih=>
  intro cells cells' cur hc hf;simp only[wv]at hf;cases hpl:place[i]? with
  |none=>simp[hpl]at hf
  |some q=>
   obtain⟨off,size⟩:=q;cases hac:fB av with
   |none=>simp[hpl,hac]at hf
   |some cs=>
    simp only[hpl,hac]at hf;cases hb:Nat.beq cs.length size&&Nat.ble (off+size) cells.length with
    |false=>rw[hb]at hf;cases hf
    |true=>
     rw[hb]at hf;simp only[afN]at hf;simp only[afv]at hb;have hb1:=afJ hb.1;have hb2:=nbl hb.2;obtain⟨r1,r2⟩:=iF hr.1 hac;have hl1:=aZ r1;have hl2:=aZ hc;simp at hl1 hl2;rw[B3 oaa]at hf;have hsp:au m γ (eT cells off cs) (((a.eval x).cells.zipIdx.foldl (λcs (c,j)=>cs.setIfInBounds (off+j) c) cur).toList):=by
      have h1:=mZ (off:=off) hc r1;have h2:((a.eval x).cells.zipIdx.foldl (λcs (c,j)=>cs.setIfInBounds (off+j) c) cur).toList=cur.toList.take off++(a.eval x).cells.toList++cur.toList.drop (off+(a.eval x).cells.toList.length):=by rw[<-Array.foldl_toList,Array.toList_zipIdx];apply af8;intro p;rw[Array.getElem?_toList,kN];grind
      rw[h2];exact h1
     obtain⟨cur',k1,k2⟩:=ih hr.2 hsp hf;refine⟨cur',?_,k2⟩;have hcond: ¬((decide ((a.eval x).cells.size≠size)||decide (off+(a.eval x).cells.size>cur.size))=true):=by simp;omega
     grind[Instr.fill]
def wx(P:Program)(t:TypeId):Option (List (Nat×Nat)×List Value):=match P.info? t,P.underlying t with
 |some it,some (.struct fields)=>match it.zero,fields.toList.mapM (λf=>(P.info? f.type).map λi=>(f.offset,i.size))with
  |some z,some places=>some (places,z.cells.toList)
  |_,_=>none
 |_,_=>none
section
variable{P:Program}{n:Nat}{ops:Array Oper}{l:List Oper}{L:Loc}{ob:lXE}{kf:List Rec->Loc->lXE->Prop}{gu:Loc}
variable{dst:Option Nat}{ty:TypeId}{pos:String}{after:Array Edge}{guard:Option (Nat×Bool)}
theorem PE{t:TypeId}{ps:List (Nat×Operand)}{avs:List (Nat×AV)}{xs:List (Operand×AV)}{pl:List (Nat×Nat)}{zs:List Value}{cells:lXF}(ht:wx P t=some (pl,zs))(hp:EvP L ps avs xs)(hf:wv pl (zs.map .v) avs=some cells)(hg:Gd ops L guard gu)(hn: ∀d,dst=some d->d<n)(kk:EvK P n ops l (cN L dst (.ag cells) []) ob (λrecs=>kf (⟨dst,gu++cg xs,.ag cells,[],.pure⟩::recs))):EvK P n ops (⟨dst,.build t ps.toArray,ty,pos,after,guard⟩::l) L ob kf:=
 cK (o:=⟨dst,.build t ps.toArray,ty,pos,after,guard⟩) xs (vB hp) hg hn (λm γ w a _ hr=>by
  unfold wx at ht;cases hi:P.info? t with
  |none=>simp[hi]at ht
  |some it=>
   cases hu:P.underlying t with
   |none=>simp[hi,hu]at ht
   |some d=>
    cases d with
    |struct fields=>
     simp only[hi,hu]at ht;cases hz:it.zero with
     |none=>simp[hz]at ht
     |some z=>
      cases hm:fields.toList.mapM (λf=>(P.info? f.type).map λi=>(f.offset,i.size))with
      |none=>simp[hz,hm]at ht
      |some places=>
       simp only[hz,hm,afD,afW]at ht;obtain⟨rfl,rfl⟩:=ht;obtain⟨cur',k1,k2⟩:=Ax (a:=a) hp hr (cur:=z.cells) (eU _) hf;have hb:P.built t (ps.map λp=>(p.1,a.eval p.2))=some cur':=by unfold Program.built;simp only[hi,hu,hz,hm];exact k1
       have:=run_build w t (ps.map λp=>(p.1,a.eval p.2)).toArray cur' (by simpa using hb);refine⟨.agg cur',?_,by simp only[Rep];exact⟨cur'.toList,by simp,k2⟩⟩;simp only[execOp,ahc,Sem.run_bind,this,Result.andThen_ok,Sem.run_pure]
    |_=>simp[hi,hu]at ht) kk
theorem wz{m:Mem}{γ:Gam}{w:World}(hi:Inv m γ ob w){rows:List lXF}{S:Nat}{T:TypeId}{cs:Array Value}{fr:Nat×Nat}(hS: ∀r∈rows,r.length=S)(hr:au m γ rows.flatten cs.toList):∃m',Inv m' γ ob (w.alloc<|.cells cs T fr)/\Trans m γ w m' γ (w.alloc<|.cells cs T fr)/\Le m γ [] m' γ/\bM m' γ S rows w.heap.size 0:=by
 have hfr: ∀a x,m a=some x->a.block≠w.heap.size:=by intro a x h e;have:=World.block_lt_of_cell? w a (hi.mem a x h);omega
 let m':Mem:=⟨λa=>if a.block=w.heap.size then(if a.spot=none then cs[a.off]? else none)else m a,λa x h=>by rw[if_neg (hfr a x<|m.has a x h)];exact m.has a x h⟩;have hle:Le m γ [] m' γ:=⟨λa x h=>by simp only[m',if_neg (hfr a x h)];exact h,λ_ _ h _=>h⟩;refine⟨m',⟨λa x h=> ?_,λo X hX=> ?_,hi.sep,λo b C h=>by have:=hi.dom o b C h;simp;omega,hi.len,hi.tab.old λk hk=>alloc_old w _ hk⟩,?_,hle,?_⟩
 ·by_cases e:a.block=w.heap.size
  ·simp only[m',e,agL]at h;split at h
   ·rename_i hs;obtain⟨b,off,sp⟩:=a;simp only at e hs;subst e;subst hs;have hb:(w.alloc<|.cells cs T fr).heap[w.heap.size]? =some (.cells cs T fr):=World.alloc_heap_new w _;simp only[World.cell?,hb];exact h
   ·cases h
  ·simp only[m',e,if_false]at h;exact sz hi _ a x h
 ·refine dU (hi.obj o X hX) hle (λb C hb=>alloc_old w _<|hi.dom o b C hb) λb C hb off hn=> ?_;have:=hi.dom o b C hb;simp only[m',show b≠w.heap.size by omega,if_false];exact hn
 ·refine⟨λa x h=>hle.mem a x h,λa x h=> ?_,λ_ _ h=>h,rfl,rfl,rfl,by simp,λk hk _=>alloc_old w _ hk⟩;by_cases e:a.block=w.heap.size
  ·exact .inr (.inl oaa)
  ·simp only[m',e,if_false]at h;exact .inl h
 ·have hr':=fK hle hr;have key: ∀(rows:List lXF)(off:Nat),(∀r∈rows,r.length=S)->au m' γ rows.flatten (cs.toList.drop off)->bM m' γ S rows w.heap.size off:=by
   intro rows;induction rows with
   |nil=>intro _ _ _;simp[bM]
   |cons r rs ih=>
    intro off hS hr;simp only[agw]at hr;have hrl:=hS r oaf;simp only[bM];refine⟨hrl,eF λi c hc=> ?_,ih (off+S) (λq hq=>hS q<|af9 _ hq) ?_⟩
    ·have hlt:=(afF.1 hc).1;obtain⟨x,hx,hrx⟩:=bX hr i c (by rw[afO hlt];exact hc);rw[agN]at hx;exact⟨x,by simp only[m',agL];simpa using hx,hrx⟩
    ·have:=eG hr S;rw[<-hrl,List.drop_left,List.drop_drop]at this;rw[<-hrl];exact this
  exact key rows 0 hS (by simpa using hr')
def rowsOf(S:Nat):Nat->List (Nat×AV)->Option (List<|lXF)
 |_,[]=>some []
 |k,(i,av)::r=>match fB av,rowsOf S (k+1) r with
  |some cs,some rows=>cond (Nat.beq i k&&Nat.beq cs.length S) (some (cs::rows)) none
  |_,_=>none
theorem pw{S:Nat}: ∀{avs:List (Nat×AV)}{k:Nat}{rows:List lXF},rowsOf S k avs=some rows->rows.length=avs.length/\ ∀r∈rows,r.length=S
 |[],k,rows,h=>by grind[rowsOf]
 |(i,av)::r,k,rows,h=>by
  simp only[rowsOf]at h;cases hac:fB av with
  |none=>simp[hac]at h
  |some cs=>
   cases hr:rowsOf S (k+1) r with
   |none=>simp[hac,hr]at h
   |some rs=>
    simp only[hac,hr]at h;cases hb:Nat.beq i k&&Nat.beq cs.length S with
    |false=>rw[hb]at h;cases h
    |true=>rw[hb]at h;simp only[afN,afD]at h;subst h;simp only[afv]at hb;obtain⟨h1,h2⟩:=pw hr;simp_all
theorem Ay{m:Mem}{γ:Gam}{a:Act}{L:Loc}{S:Nat}{ps:List (Nat×Operand)}{avs:List (Nat×AV)}{xs:List (Operand×AV)}(hp:EvP L ps avs xs)(hr:gZ m γ a xs):∀{k:Nat}{rows:List lXF}{cur:Array Value},rowsOf S k avs=some rows->cur.size=(k+avs.length)*S->∃cur':Array Value,Instr.fill (λi=>some (i*S,S)) cur (ps.map λp=>(p.1,a.eval p.2))=some cur'/\ ∃ys,au m γ rows.flatten ys/\cur'.toList=cur.toList.take (k*S)++ys:=by
 induction hp with
 |nil=>intro k rows cur h hc;simp only[rowsOf,afD]at h;subst h;refine⟨cur,rfl,[],by simp[au],?_⟩;simp only[agG];rw[agd];simp at hc;simp[hc]
 | @cons i x av ps avs xs h _ ih=>
  intro k rows cur hro hc;simp only[rowsOf]at hro;cases hac:fB av with
  |none=>simp[hac]at hro
  |some cs=>
   cases hrs:rowsOf S (k+1) avs with
   |none=>simp[hac,hrs]at hro
   |some rs=>
    simp only[hac,hrs]at hro;cases hb:Nat.beq i k&&Nat.beq cs.length S with
    |false=>rw[hb]at hro;cases hro
    |true=>
     rw[hb]at hro;simp only[afN,afD]at hro;subst hro;simp only[afv]at hb;have hik:=afJ hb.1;have hcS:=afJ hb.2;subst hik;obtain⟨r1,r2⟩:=iF hr.1 hac;have hl1:=aZ r1;simp at hl1;have hsz:i*S+S<=cur.size:=by rw[hc];have:(i+1)*S<=(i+(avs.length+1))*S:=agu _ oaa;rw[agD]at this;simp only[afX];omega
     obtain⟨mid,hmid⟩: ∃mid,mid=(a.eval x).cells.zipIdx.foldl (λcs (c,j)=>cs.setIfInBounds (i*S+j) c) cur:=⟨_,rfl⟩;have hget: ∀p,mid[p]? =if i*S<=p/\p<i*S+(a.eval x).cells.size/\p<cur.size then(a.eval x).cells[p-i*S]? else cur[p]? :=by intro p;have:=kN (a.eval x).cells.toList 0 (i*S) cur p;rw[hmid,<-Array.foldl_toList,Array.toList_zipIdx];simpa using this
     have hms:mid.size=cur.size:=by
      rw[hmid];have: ∀(l:List (Value×Nat))(c:Array Value),(l.foldl (λcs q=>cs.setIfInBounds (i*S+q.2) q.1) c).size=c.size:=by
       intro l;induction l with
       |nil=>intro c;rfl
       |cons q l ihl=>intro c;simp only[List.foldl_cons];rw[ihl];simp
      rw[<-Array.foldl_toList];exact this _ _
     obtain⟨cur',k1,ys,k2,k3⟩:=ih hr.2 (k:=i+1) (cur:=mid) hrs (by rw[hms,hc];congr 1;simp only[afX];omega);refine⟨cur',?_,(a.eval x).cells.toList++ys,by simp only[agw];exact cu r1 k2,?_⟩
     ·have hcond: ¬((decide ((a.eval x).cells.size≠S)||decide (i*S+(a.eval x).cells.size>cur.size))=true):=by simp;omega
      simp only[afZ,Instr.fill];rw[if_neg hcond];rw[hmid]at k1;simpa using k1
     ·rw[k3,<-agJ];congr 1;apply af8;intro p;rw[agp,Array.getElem?_toList,hget];by_cases h3:p<i*S
      ·rw[if_pos (by rw[agD];omega),if_neg oaa,afO oau,agp,if_pos h3];simp
      ·rw[agb oau];simp only[agh,ag1];rw[show min (i*S) cur.size=i*S from by omega];by_cases h4:p<(i+1)*S
       ·rw[agD]at h4;rw[if_pos (by rw[agD];omega),if_pos ⟨by omega,by omega,by omega⟩];simp
       ·rw[if_neg h4];rw[agD]at h4;rw[af5 oau]
theorem yW{t e:TypeId}{S B:Nat}{zs:List Value}{len:Nat}{ps:List (Nat×Operand)}{avs:List (Nat×AV)}{xs:List (Operand×AV)}{rows:List lXF}(ht:slk P t=some (e,S,B))(hz:zer P e=some zs)(hp:EvP L ps avs xs)(hr:rowsOf S 0 avs=some rows)(hlen:avs.length=len)(hsmall:len*S<=2^24)(hg:Gd ops L guard gu)(hn: ∀d,dst=some d->d<n)(kk:EvK P n ops l (cN L dst (.sl S rows) []) ob (λrecs=>kf (⟨dst,gu++cg xs,.sl S rows,[],.pure⟩::recs))):EvK P n ops (⟨dst,.buildSlice t len ps.toArray,ty,pos,after,guard⟩::l) L ob kf:=
 B0 (o:=⟨dst,.buildSlice t len ps.toArray,ty,pos,after,guard⟩) xs (vB hp) hg hn (λob m γ w a K Q hi hx hK=>by
  obtain⟨hu,inf,g1,g2,_⟩:=kY ht;obtain⟨z,hzz⟩: ∃z,inf.zero=some z:=by
   unfold zer at hz;rw[g1]at hz;cases hzz:inf.zero with
   |none=>simp[hzz]at hz
   |some z=>exact⟨z,rfl⟩
  have key: ∀cur:Array Value,cur.size=len*S-> ∃cur':Array Value,Instr.fill (λi=>some (i*S,S)) cur (ps.map λp=>(p.1,a.eval p.2))=some cur'/\au m γ rows.flatten cur'.toList:=by
   intro cur hcur;obtain⟨cur',k1,ys,k2,k3⟩:=Ay (a:=a) hp hx (k:=0) (cur:=cur) hr (by simp[hlen,hcur]);have hcur:cur'.toList=ys:=by simpa using k3
   exact⟨cur',k1,by rw[hcur];exact k2⟩
  obtain⟨cur',hrep,hrun⟩: ∃cur':Array Value,au m γ rows.flatten cur'.toList/\(execOp a.eval ⟨dst,.buildSlice t len ps.toArray,ty,pos,after,guard⟩).run P w= .ok (.value<|.slice (some ⟨w.heap.size,0,none⟩) len len) (w.alloc<|.cells cur' e):=by
   by_cases h0:len*S=0
   ·obtain⟨cur',k1,k2⟩:=key #[] (by simp[h0]);refine⟨cur',k2,?_⟩;have hb:(Instr.buildSlice t len (ps.map λp=>(p.1,a.eval p.2)).toArray).run P w= .ok (.slice (some ⟨w.heap.size,0,none⟩) len len) (w.alloc<|.cells cur' e):=by simp only[Instr.buildSlice,Sem.run_bind,run_underlying hu,Result.andThen_ok,sizeOf,typeInfo,run_program,g1,Sem.run_pure,g2,gt_iff_lt,h0,agL];have he:Array.map (λx=>(default:Value)) (Array.range 0)= #[]:=Array.eq_empty_of_size_eq_zero oaf;simp[newRow,he,k1]
    simp only[execOp,ahc,Sem.run_bind,hb,Result.andThen_ok,Sem.run_pure]
   ·obtain⟨cur',k1,k2⟩:=key ((Array.range<|len*S).map (z.cells[·%z.cells.size]!)) oaf;refine⟨cur',k2,?_⟩;have hb:=run_buildSlice w t e len (ps.map λp=>(p.1,a.eval p.2)).toArray cur' inf z hu g1 hzz (by rw[g2];omega) (by rw[g2];exact h0) (by rw[g2];exact k1);simp only[execOp,ahc,Sem.run_bind,hb,Result.andThen_ok,Sem.run_pure]
  obtain⟨hl1,hl2⟩:=pw hr;obtain⟨m',i1,i2,i3,i4⟩:=wz hi (S:=S) (T:=e) hl2 hrep;unfold Oper.wp;rw[hrun,Oper.upon_value];refine hK m' γ _ _ i2 i3 i1 ?_;simp only[Rep];exact⟨_,len,len,rfl,by omega,afG _,.inr ⟨w.heap.size,0,rfl,i4⟩⟩) kk
theorem ZM{T:TypeId}{x:Operand}{av:AV}{cs:lXF}(hx:aX L x=some av)(hc:fB av=some cs)(hg:Gd ops L guard gu)(hn: ∀d,dst=some d->d<n)(kk:EvK P n ops l (cN L dst (.pf cs) []) ob (λrecs=>kf<|⟨dst,gu++cg [(x,av)],.pf cs,[],.pure⟩::recs)):EvK P n ops (⟨dst,.box T x,ty,pos,after,guard⟩::l) L ob kf:=
 B0 (o:=⟨dst,.box T x,ty,pos,after,guard⟩) [(x,av)] ⟨hx,trivial⟩ hg hn (λob m γ w a K Q hi h hK=>by
  have hr:=(iF h.1 hc).1;obtain⟨m',i1,i2,i3,i4⟩:=wz hi (S:=cs.length) (T:=T) (rows:=[cs]) (cs:=(a.eval x).cells) (fr:=(0,0)) (λr hr=>by simp at hr;rw[hr]) (by simpa using hr);have hrun:(execOp a.eval ⟨dst,.box T x,ty,pos,after,guard⟩).run P w= .ok (.value<|.pointer<|some ⟨w.heap.size,0,none⟩) (w.alloc<|.cells (a.eval x).cells T):=by simp[execOp,Instr.box,newVar,newRow]
  unfold Oper.wp;rw[hrun,Oper.upon_value];refine hK m' γ _ _ i2 i3 i1 ?_;simp only[bM]at i4;simp only[Rep];exact⟨w.heap.size,0,rfl,i4.2.1⟩) kk
end
def qv{m:Mem}{γ:Gam}{S:Nat}: ∀{rows:List lXF}{b off:Nat},bM m γ S rows b off-> ∃xs:List Value,au m γ rows.flatten xs/\xs.length=rows.length*S/\ ∀j v,xs[j]? =some v->m ⟨b,off+j,none⟩=some v
 |[],b,off,_=>⟨[],by simp[au],by simp,by simp⟩
 |r::rs,b,off,h=>by simp only[bM]at h;obtain⟨h1,h2,h3⟩:=h;obtain⟨xs,k1,k2⟩:=kJ h2;obtain⟨ys,g1,g2,g3⟩:=qv h3;have hl:=aZ k1;refine⟨xs++ys,by grind[cu],by grind,λj v hv=> ?_⟩;grind
def eu(rows:List lXF):Bool:=rows.all λr=>r.all AV.one
def qw: ∀{rows:List lXF},eu rows=true->rows.flatten.all AV.one=true
 |[],_=>rfl
 |r::rs,h=>by grind[eu]
section
variable{P:Program}{w:World}
end
section
variable{P:Program}{n:Nat}{ops:Array Oper}{l:List Oper}{L:Loc}{ob:lXE}{kf:List Rec->Loc->lXE->Prop}{gu:Loc}
variable{dst:Option Nat}{ty:TypeId}{pos:String}{after:Array Edge}{guard:Option (Nat×Bool)}
end
section
variable{P:Program}{m:Mem}{γ:Gam}{ob:lXE}{w:World}
theorem oc{S k:Nat}{rows:List lXF}(hS: ∀r∈rows,r.length=S)(hk:k<=rows.length):rows.flatten.take (k*S)=(rows.take k).flatten:=by
 have hfl:=iW (S:=S) (q:=rows.take k) (λr hr=>hS r<|agy hr);have hl:(rows.take k).length=k:=by simp;omega
 rw[hl]at hfl;conv=>lhs;rw[<-ags k rows]
 rw[List.flatten_append,List.take_append_of_le_length oaa];exact agd oaa
theorem mE{ks:lXC}: ∀{A B:lXF},cJ ks A=true->cJ ks B=true->cJ ks (A++B)=true
 |[],B,_,h=>by simpa using h
 |a::A,B,h,k=>by simp only[cJ,afv]at h;simp[cJ,h.1,mE h.2 k]
theorem oT{ks:lXC}: ∀{rows:List lXF},eZ ks rows=true->cJ ks rows.flatten=true
 |[],_=>by simp[cJ]
 |r::rs,h=>by simp only[eZ,afv]at h;simp only[agw];exact mE h.1 (oT h.2)
section
variable(w:World)(t tx ty e:TypeId)(i:TypeInfo)
theorem qx(ht:P.underlying t=some (.slice e))(hi:P.info? e=some i)(g sLen sCap:Nat)(cur:Array Value)(hg:CA w g cur e){x:Value}{n:Nat}{news:List Value}(hs:Src P i.size tx x n news w)(hroom:sLen+n<=sCap)(hfit:sLen*i.size+news.length<=cur.size):(Builtin.append_ #[t,tx] ty #[.slice (some ⟨g,0,none⟩) sLen sCap,x]).run P w= .ok (.slice (some ⟨g,0,none⟩) (sLen+n) sCap) (w.setRow g (cur.toList.take (sLen*i.size)++news++cur.toList.drop (sLen*i.size+news.length)).toArray):=by obtain⟨fr,hg1,hg2⟩:=hg;have hst:=hH P g (sLen*i.size) e fr news 0 cur w hg1 hg2 (by simpa using hfit) hs.one;simp only[Nat.add_zero]at hst;rcases hs.kind with⟨e',hk⟩|hk<;>simp[Builtin.append_,run_underlying ht,run_underlying hk,sizeOf,typeInfo,hi,hs.len,hroom,hs.cells,Addr.add_lit,hst]
theorem uB(ht:P.underlying t=some (.slice e))(hi:P.info? e=some i){x:Value}{news:List Value}(hs:Src P i.size tx x 0 news w)(a:Option Addr):(Builtin.append_ #[t,tx] ty #[.slice a 0 0,x]).run P w= .ok (.slice a 0 0) w:=by have hn:news=[]:=(by grind[hs.newsLen]);subst hn;have hc:=hs.cells;rcases hs.kind with⟨e',hk⟩|hk<;>cases a<;>simp[Builtin.append_,run_underlying ht,run_underlying hk,sizeOf,typeInfo,hi,hs.len,hc,storeCells]
end
end
section
variable{P:Program}{n:Nat}{ops:Array Oper}{l:List Oper}{L:Loc}{ob:lXE}{kf:List Rec->Loc->lXE->Prop}{gu:Loc}
variable{dst:Option Nat}{ty:TypeId}{pos:String}{after:Array Edge}{guard:Option (Nat×Bool)}
theorem iX{o:Oper}{a:Act}{K:Act->World->Prop}{Q:Exit->Act->World->Prop}{w w':World}{v:Value}(h:(execOp a.eval o).run P w= .ok (.value v) w')(hk:K (a.put o.dst v) w'):o.wp P a w K Q:=by grind[Oper.wp,Oper.upon_value]
def yX(ob:lXE)(S:Nat):AV->Option (List<|lXF)
 | .sl S' new=>cond (Nat.beq S' S) (some new) none
 | .sr o S' lo len=>match ob[o]? with
  |some (.row _ S2 rows)=>cond (Nat.beq S' S&&Nat.beq S2 S&&Nat.ble (lo+len) rows.length) (some<|(rows.drop lo).take len) none
  |_=>none
 | .v (.slice _ 0 _)=>some []
 | .v (.string s)=>cond (Nat.beq S 1) (some<|s.data.toList.map λb=>[.v (.int .u8 b.toNat)]) none
 |_=>none
def yY(P:Program)(tx:TypeId):AV->Bool
 | .v (.string _)=>match P.underlying tx with
  |some .string=>true
  |_=>false
 |_=>match P.underlying tx with
  |some (.slice _)=>true
  |_=>false
theorem B7{P:Program}{tx:TypeId}{av:AV}(h:yY P tx av=true)(hv: ∀s,av≠ .v (.string s)): ∃e,P.underlying tx=some (.slice e):=by
 have key:(match P.underlying tx with|some (.slice _)=>true|_=>false)=true:=by simp_all[yY]
 grind
theorem wA: ∀l:List UInt8,(l.map λb=>[AV.v (.int .u8 b.toNat)]).flatten=(l.map λb=>Value.int .u8 b.toNat).map .v
 |[]=>rfl
 |b::l=>by simp[wA l]
theorem wB{S:Nat}{rows:List lXF}(hS: ∀r∈rows,r.length=S){lo len:Nat}(h:lo+len<=rows.length):((rows.drop lo).take len).flatten=(rows.flatten.drop<|lo*S).take (len*S):=by have h1: ∀r∈rows.drop lo,r.length=S:=λr hr=>hS r (List.mem_of_mem_drop hr);rw[<-oc h1 oau];congr 1;have hl:=iW (S:=S) (q:=rows.take lo) (λr hr=>hS r<|agy hr);rw[agh,Nat.min_eq_left oaa]at hl;conv=>rhs;rw[<-ags lo rows,List.flatten_append,<-hl,List.drop_left]
theorem PF{P:Program}{m:Mem}{γ:Gam}{ob:lXE}{w:World}(hi:Inv m γ ob w){S:Nat}{tx:TypeId}{av:AV}{x:Value}{new:List lXF}(hr:Rep m γ av x)(ha:yX ob S av=some new)(ht:yY P tx av=true)(hone:eu new=true):∃news,Src P S tx x new.length news w/\au m γ new.flatten news/\ ∀r∈new,r.length=S:=by
 cases av with
 |sl S' rows=>
  obtain⟨e',hu⟩:=B7 ht (by intro s h;cases h);simp only[yX]at ha;cases hS:Nat.beq S' S with
  |false=>rw[hS]at ha;cases ha
  |true=>
   rw[hS]at ha;simp only[afN,afD]at ha;have:=afJ hS;subst this;subst ha;simp only[Rep]at hr;obtain⟨ad,len,cap,rfl,e2,e3,e4⟩:=hr;subst e2;by_cases hn:rows=[]
   ·subst hn;refine⟨[],?_,by simp[au],by simp⟩;refine⟨.inl ⟨e',hu⟩,λ_=>rfl,?_,?_,by simp,by simp⟩<;>(cases ad<;>simp[Builtin.firstCells,loadCells,loadCellsFrom])
   ·obtain⟨b,off,rfl,er⟩:=e4.resolve_left hn;obtain⟨news,n1,n2,n3⟩:=qv er;exact⟨news,Src.ofSlice w hu ⟨b,off,none⟩ rows.length cap news n2 (λj u hu=>by rw[fq];exact hi.mem _ _<|n3 j u hu) (mY n1<|qw hone),n1,λr hr=>by obtain⟨i,hi2,hir⟩:=List.getElem_of_mem hr;exact(iT er i r<|by rw[afR hi2,hir]).1⟩
 |sr o S' lo len=>
  obtain⟨e',hu⟩:=B7 ht (by intro s h;cases h);simp only[yX]at ha;cases ho:ob[o]? with
  |none=>rw[ho]at ha;cases ha
  |some X=>
   rw[ho]at ha;cases X<;>first|(cases ha;done)|skip
   rename_i T S2 rows;simp only at ha;cases hc:Nat.beq S' S&&Nat.beq S2 S&&Nat.ble (lo+len) rows.length with
   |false=>rw[hc]at ha;cases ha
   |true=>
    rw[hc]at ha;simp only[afN,afD]at ha;simp only[afv]at hc;have q1:=afJ hc.1.1;have q2:=afJ hc.1.2;have q3:=nbl hc.2;subst q1;subst q2;subst ha;have hlen:((rows.drop lo).take len).length=len:=by simp;omega
    simp only[Rep]at hr;rcases hr with⟨g1,⟨ad,rfl⟩,rfl,rfl⟩|⟨b,C,cap,g1,g2,_,_,(rfl|⟨rfl,_,ad,rfl⟩)⟩
    rotate_left 2
    ·refine⟨[],?_,by simp[au],by simp⟩;rw[List.take_zero];refine⟨.inl ⟨e',hu⟩,λ_=>rfl,?_,?_,by simp,by simp⟩<;>(cases ad<;>simp[Builtin.firstCells,loadCells,loadCellsFrom])
    ·refine⟨[],?_,by simp[au],by simp⟩;refine⟨.inl ⟨e',hu⟩,λ_=>rfl,?_,?_,by simp,by simp⟩<;>(cases ad<;>simp[Builtin.firstCells,loadCells,loadCellsFrom])
    ·rcases hi.obj o _ ho with⟨e1,_⟩|⟨b',C',cs,p1,p2,p3,p4,p5,p6,p7,p8⟩
     ·rw[g1]at e1;cases e1
     ·rw[g1]at p1;cases p1;have h1:=dG (eG p7<|lo*S2) (len*S2);rw[<-wB p6 q3]at h1;have hl:=aZ h1;have hl2:=iW (S:=S2) (q:=(rows.drop lo).take len) (λr hr=>p6 r<|List.mem_of_mem_drop<|agy hr);refine⟨_,?_,h1,λr hr=>p6 r (List.mem_of_mem_drop<|agy hr)⟩;rw[hlen];refine Src.ofSlice w hu ⟨b,lo*S2,none⟩ len cap _ (by rw[hl,hl2,hlen]) (λj u hu=> ?_) (mY h1<|qw hone);rw[fq,p2.cell];rw[agp]at hu;split at hu
      ·rw[agN,agp]at hu;split at hu
       ·simpa using hu
       ·cases hu
      ·cases hu
 |v y=>
  simp only[Rep]at hr;subst hr;cases x<;>first|(cases ha;done)|skip
  ·rename_i s;simp only[yX]at ha;cases hS:Nat.beq S 1 with
   |false=>rw[hS]at ha;cases ha
   |true=>
    rw[hS]at ha;simp only[afN,afD]at ha;have:=afJ hS;subst this;subst ha;have hu:P.underlying tx=some .string:=by
     simp only[yY]at ht;split at ht
     ·assumption
     ·cases ht
    refine⟨byteCells s,?_,by rw[wA];exact eU _,?_⟩
    ·have:=Src.ofString (P:=P) w hu s;rw[afK];have e:s.data.toList.length=s.size:=by rw[ag1];rfl
     rw[e];exact this
    ·intro r hr;obtain⟨_,_,rfl⟩:=agl.1 hr;rfl
  ·rename_i ad len cap;obtain⟨e',hu⟩:=B7 ht (by intro s h;cases h);cases len<;>first|(cases ha;done)|skip
   simp only[yX,afD]at ha;subst ha;refine⟨[],?_,by simp[au],by simp⟩;refine⟨.inl ⟨e',hu⟩,λ_=>rfl,?_,?_,by simp,by simp⟩<;>(cases ad<;>simp[Builtin.firstCells,loadCells,loadCellsFrom])
 |_=>cases ha
theorem tQ{m:Mem}{γ:Gam}{w:World}(hi:Inv m γ ob w)(T:TypeId)(S:Nat):
  Inv m (λk=>if k=ob.length then some none else γ k) (ob++ [.row T S []]) w/\Trans m γ w m (λk=>if k=ob.length then some none else γ k) w/\Le m γ [] m (λk=>if k=ob.length then some none else γ k):=by
 have hle:Le m γ [] m (λk=>if k=ob.length then some none else γ k):=⟨λ_ _ h=>h,λo g hg _=>by have:=hi.len o oav;simp[hg,show o≠ob.length by omega]⟩;have hold: ∀k b C,(λk=>if k=ob.length then some none else γ k) k=some (some (b,C))->γ k=some (some (b,C)):=by
  intro k b C h;by_cases e:k=ob.length
  ·subst e;simp at h
  ·simpa [e]using h
 refine⟨⟨hi.mem,λo X hX=> ?_,λo o' b C C' l1 l2 h1 h2=> ?_,λo b C h=>hi.dom o b C (hold o b C h),λo h=> ?_,hi.tab⟩,⟨λ_ _ h=>h,λ_ _ h=> .inl h,λk _⟨o,C,h⟩=>⟨o,C,hold o k C h⟩,rfl,rfl,rfl,afG _,λ_ _ _=>rfl⟩,hle⟩
 ·by_cases ho:o<ob.length
  ·rw[afO ho]at hX;exact dU (hi.obj o X hX) hle (λ_ _ _=>rfl) (λ_ _ _ _ h=>h)
  ·have:=(afF.1 hX).1;have hoe:o=ob.length:=by simp at this;omega
   subst hoe;rw[agb (afG _)]at hX;simp at hX;subst hX;exact .inl ⟨by simp,rfl⟩
 ·have g1:=hold o b C h1;have g2:=hold o' b C' h2;have q1:=hi.len o (by rw[g1];simp);have q2:=hi.len o' (by rw[g2];simp);have lv: ∀k,k<ob.length->live (ob++ [.row T S []]) k->live ob k:=by rintro k hk ⟨Y,hY,hne⟩;rw[afO hk]at hY;exact⟨Y,hY,hne⟩
  exact hi.sep o o' b C C' (lv o q1 l1) (lv o' q2 l2) g1 g2
 ·by_cases e:o=ob.length
  ·simp[e]
  ·have:=hi.len o (by simpa [e]using h);simp;omega
end
mutual
def AV.ren (f:Nat->Nat):AV->AV
 | .any=> .any
 | .v x=> .v x
 | .sl S rows=> .sl S (cP f rows)
 | .ag cs=> .ag (bV f cs)
 | .tu cs=> .tu (bV f cs)
 | .pt o off=> .pt (f o) off
 | .pf cs=> .pf (bV f cs)
 | .sr o S lo len=> .sr (f o) S lo len
 | .fn g fs cs=> .fn g (bV f fs) (bV f cs)
 | .ifc t y=> .ifc t (y.ren f)
 | .mp o=> .mp (f o)
 | .yl o=> .yl (f o)
 | .cl S rows=> .cl S (cP f rows)
def bV (f:Nat->Nat):lXF->lXF
 |[]=>[]
 |c::cs=>c.ren f::bV f cs
def cP (f:Nat->Nat):List lXF->List lXF
 |[]=>[]
 |r::rs=>bV f r::cP f rs
end
mutual
def AV.pure:AV->Bool
 | .any=>true
 | .v _=>true
 | .sl _ rows=>aM rows
 | .ag cs=>aq cs
 | .tu cs=>aq cs
 | .pt _ _=>false
 | .pf cs=>aq cs
 | .sr _ _ _ _=>false
 | .fn _ fs cs=>aq fs&&aq cs
 | .ifc _ y=>y.pure
 | .mp _=>false
 | .yl _=>false
 | .cl _ rows=>aM rows
def aq:lXF->Bool
 |[]=>true
 |c::cs=>c.pure&&aq cs
def aM:List lXF->Bool
 |[]=>true
 |r::rs=>aq r&&aM rs
end
mutual
theorem cR (f:Nat->Nat): ∀av:AV,av.pure=true->av.ren f=av
 | .any,_=>by simp[AV.ren]
 | .v _,_=>by simp[AV.ren]
 | .sl _ rows,h=>by simp only[AV.pure]at h;simp[AV.ren,fU f rows h]
 | .ag cs,h=>by simp only[AV.pure]at h;simp[AV.ren,cL f cs h]
 | .tu cs,h=>by simp only[AV.pure]at h;simp[AV.ren,cL f cs h]
 | .pt _ _,h=>by simp[AV.pure]at h
 | .pf cs,h=>by simp only[AV.pure]at h;simp[AV.ren,cL f cs h]
 | .sr _ _ _ _,h=>by simp[AV.pure]at h
 | .fn _ fs cs,h=>by simp only[AV.pure,afv]at h;simp[AV.ren,cL f fs h.1,cL f cs h.2]
 | .ifc _ y,h=>by simp only[AV.pure]at h;simp[AV.ren,cR f y h]
 | .mp _,h=>by simp[AV.pure]at h
 | .yl _,h=>by simp[AV.pure]at h
 | .cl _ rows,h=>by simp only[AV.pure]at h;simp[AV.ren,fU f rows h]
theorem cL (f:Nat->Nat): ∀cs:lXF,aq cs=true->bV f cs=cs
 |[],_=>by simp[bV]
 |c::cs,h=>by simp only[aq,afv]at h;simp[bV,cR f c h.1,cL f cs h.2]
theorem fU (f:Nat->Nat): ∀rows:List lXF,aM rows=true->cP f rows=rows
 |[],_=>by simp[cP]
 |r::rs,h=>by simp only[aM,afv]at h;simp[cP,cL f r h.1,fU f rs h.2]
end
theorem ek(f:Nat->Nat): ∀rows:List lXF,(cP f rows).length=rows.length
 |[]=>rfl
 |r::rs=>by simp[cP,ek f rs]
theorem jO(f:Nat->Nat): ∀cs:lXF,(bV f cs).length=cs.length
 |[]=>rfl
 |r::rs=>by simp[bV,jO f rs]
theorem hJ(f:Nat->Nat): ∀a b:lXF,bV f (a++b)=bV f a++bV f b
 |[],b=>rfl
 |c::a,b=>by simp[bV,hJ f a b]
theorem qy(f:Nat->Nat): ∀rows:List lXF,(cP f rows).flatten=bV f rows.flatten
 |[]=>rfl
 |r::rs=>by simp[cP,qy f rs,hJ]
theorem nf{S:Nat}(f:Nat->Nat): ∀{rows:List lXF},(∀r∈cP f rows,r.length=S)↔(∀r∈rows,r.length=S)
 |[]=>by simp[cP]
 |r::rs=>by simp only[cP,agc,forall_eq_or_imp,jO,nf f (rows:=rs)]
section
variable{m:Mem}{γ:Gam}{f:Nat->Nat}
mutual
theorem dk: ∀(av:AV)(x:Value),Rep m (λk=>γ<|f k) av x↔Rep m γ (av.ren f) x
 | .any,_=>by simp[AV.ren,Rep]
 | .v _,_=>by simp[AV.ren,Rep]
 | .sl S rows,x=>by
  simp only[AV.ren,Rep,ek];constructor
  ·rintro⟨a,len,cap,h1,h2,h3,h4⟩;refine⟨a,len,cap,h1,h2,h3,?_⟩;rcases h4 with h4|⟨b,off,h5,h6⟩
   ·left;subst h4;rfl
   ·right;exact⟨b,off,h5,(gG S rows b off).1 h6⟩
  ·rintro⟨a,len,cap,h1,h2,h3,h4⟩;refine⟨a,len,cap,h1,h2,h3,?_⟩;rcases h4 with h4|⟨b,off,h5,h6⟩
   ·grind[ek]
   ·right;exact⟨b,off,h5,(gG S rows b off).2 h6⟩
 | .ag cs,x=>by
  simp only[AV.ren,Rep];constructor
  ·rintro⟨xs,h1,h2⟩;exact⟨xs,h1,(cv cs xs).1 h2⟩
  ·rintro⟨xs,h1,h2⟩;exact⟨xs,h1,(cv cs xs).2 h2⟩
 | .tu cs,x=>by
  simp only[AV.ren,Rep];constructor
  ·rintro⟨xs,h1,h2⟩;exact⟨xs,h1,(cv cs xs).1 h2⟩
  ·rintro⟨xs,h1,h2⟩;exact⟨xs,h1,(cv cs xs).2 h2⟩
 | .pt o off,x=>by simp[AV.ren,Rep]
 | .pf cs,x=>by
  simp only[AV.ren,Rep];constructor
  ·rintro⟨b,off,h1,h2⟩;exact⟨b,off,h1,(fV cs b off).1 h2⟩
  ·rintro⟨b,off,h1,h2⟩;exact⟨b,off,h1,(fV cs b off).2 h2⟩
 | .sr o S lo len,x=>by simp[AV.ren,Rep]
 | .fn g fs cs,x=>by
  simp only[AV.ren,Rep];constructor
  ·rintro⟨xs,ys,h1,h2,h3⟩;exact⟨xs,ys,h1,(cv fs xs).1 h2,(cv cs ys).1 h3⟩
  ·rintro⟨xs,ys,h1,h2,h3⟩;exact⟨xs,ys,h1,(cv fs xs).2 h2,(cv cs ys).2 h3⟩
 | .ifc t y,x=>by
  simp only[AV.ren,Rep];constructor
  ·rintro⟨z,h1,h2⟩;exact⟨z,h1,(dk y z).1 h2⟩
  ·rintro⟨z,h1,h2⟩;exact⟨z,h1,(dk y z).2 h2⟩
 | .mp o,x=>by simp[AV.ren,Rep]
 | .yl o,x=>by simp[AV.ren,Rep]
 | .cl S rows,x=>by
  simp only[AV.ren,Rep,ek];constructor
  ·rintro⟨a,len,h1,h2,h4⟩;refine⟨a,len,h1,h2,?_⟩;rcases h4 with h4|⟨b,off,h5,h6⟩
   ·left;subst h4;rfl
   ·right;exact⟨b,off,h5,(gG S rows b off).1 h6⟩
  ·rintro⟨a,len,h1,h2,h4⟩;refine⟨a,len,h1,h2,?_⟩;rcases h4 with h4|⟨b,off,h5,h6⟩
   ·grind[ek]
   ·right;exact⟨b,off,h5,(gG S rows b off).2 h6⟩
theorem cv: ∀(cs:lXF)(xs:List Value),au m (λk=>γ<|f k) cs xs↔au m γ (bV f cs) xs
 |[],xs=>by simp[bV,au]
 |c::cs,xs=>by
  simp only[bV,au];constructor
  ·rintro⟨x,r,h1,h2,h3⟩;exact⟨x,r,h1,(dk c x).1 h2,(cv cs r).1 h3⟩
  ·rintro⟨x,r,h1,h2,h3⟩;exact⟨x,r,h1,(dk c x).2 h2,(cv cs r).2 h3⟩
theorem fV: ∀(cs:lXF)(b off:Nat),bD m (λk=>γ<|f k) cs b off↔bD m γ (bV f cs) b off
 |[],b,off=>by simp[bV,bD]
 |c::cs,b,off=>by
  simp only[bV,bD];constructor
  ·rintro⟨⟨x,h1,h2⟩,h3⟩;exact⟨⟨x,h1,(dk c x).1 h2⟩,(fV cs b<|off+1).1 h3⟩
  ·rintro⟨⟨x,h1,h2⟩,h3⟩;exact⟨⟨x,h1,(dk c x).2 h2⟩,(fV cs b<|off+1).2 h3⟩
theorem gG (S:Nat): ∀(rows:List lXF)(b off:Nat),bM m (λk=>γ<|f k) S rows b off↔bM m γ S (cP f rows) b off
 |[],b,off=>by simp[cP,bM]
 |r::rs,b,off=>by
  simp only[cP,bM,jO];constructor
  ·rintro⟨h1,h2,h3⟩;exact⟨h1,(fV r b off).1 h2,(gG S rs b<|off+S).1 h3⟩
  ·rintro⟨h1,h2,h3⟩;exact⟨h1,(fV r b off).2 h2,(gG S rs b<|off+S).2 h3⟩
end
end
def Ob.ren(f:Nat->Nat):Ob->Ob
 | .dead=> .dead
 | .box T cells=> .box T (bV f cells)
 | .row T S rows=> .row T S (cP f rows)
 | .mp keys vals=> .mp keys (bV f vals)
 | .lp busy k ts cs=> .lp busy k ts (bV f cs)
def ng{m:Mem}{γ:Gam}{w:World}{f:Nat->Nat}{o:Nat}{X:Ob}:gP m (λk=>γ<|f k) w o X↔gP m γ w (f o) (X.ren f):=by
 cases X with
 |dead=>simp[Ob.ren,gP]
 |box T cells=>grind[Ob.ren,gP,cv]
 |row T S rows=>
  simp only[Ob.ren,gP,ek,qy];constructor
  ·rintro(⟨h1,h2⟩|⟨b,C,cs,h1,h2,h3,h4,h5,h6,h7,h8⟩)
   ·left;exact⟨h1,by rw[h2];rfl⟩
   ·right;exact⟨b,C,cs,h1,h2,h3,h4,h5,(nf f).2 h6,(cv _ _).1 h7,h8⟩
  ·rintro(⟨h1,h2⟩|⟨b,C,cs,h1,h2,h3,h4,h5,h6,h7,h8⟩)
   ·grind[ek]
   ·right;exact⟨b,C,cs,h1,h2,h3,h4,h5,(nf f).1 h6,(cv _ _).2 h7,h8⟩
 |mp keys vals=>grind[Ob.ren,gP,cv]
 |lp busy k ts cs=>simp_all[Ob.ren,gP,cv]
def bU(sel:lXC)(N i:Nat):Nat:=match sel[i]? with
 |some s=>s
 |none=>N+(i-sel.length)
def gv:lXE->lXC->lXE->lXE
 |ob,s::sel,X::obc=>gv (ob.set s X) sel obc
 |ob,_,_=>ob
def dW(ks:lXC)(ob:lXE):lXE:=match ks with
 |[]=>ob
 |k::ks=>ob.map (mc (k::ks))
def back(ob:lXE)(sel ks:lXC)(obc:lXE):lXE:=gv (dW (ks.map<|bU sel ob.length) ob) sel ((obc.take sel.length).map<|Ob.ren<|bU sel ob.length)++(obc.drop sel.length).map (Ob.ren<|bU sel ob.length)
theorem iS: ∀(ob:lXE)(sel:lXC)(obc:lXE),(gv ob sel obc).length=ob.length
 |ob,[],obc=>by cases obc<;>rfl
 |ob,s::sel,[]=>rfl
 |ob,s::sel,X::obc=>by simp[gv,iS]
def me: ∀{ob:lXE}{sel:lXC}{obc:lXE},sel.Nodup->sel.length=obc.length->(∀s∈sel,s<ob.length)->(∀(i s:Nat)(X:Ob),sel[i]? =some s->obc[i]? =some X->(gv ob sel obc)[s]? =some X)/\(∀j,j∉sel->(gv ob sel obc)[j]? =ob[j]?)
 |ob,[],[],_,_,_=>⟨λi s X h=>by simp at h,λj _=>rfl⟩
 |ob,s::sel,X::obc,hn,hl,hs=>by obtain⟨hn1,hn2⟩:=ahe.1 hn;obtain⟨k1,k2⟩:=me (ob:=ob.set s X) (sel:=sel) (obc:=obc) hn2 oaL oaq;grind[gv]
 |ob,[],X::obc,_,hl,_=>by simp at hl
 |ob,s::sel,[],_,hl,_=>by simp at hl
theorem eI{sel:lXC}{N i s:Nat}(h:sel[i]? =some s):bU sel N i=s:=by simp[bU,h]
theorem kj{sel:lXC}{N i:Nat}(h:sel.length<=i):bU sel N i=N+(i-sel.length):=by simp[bU,af5 h]
def k9(sel:lXC)(N j:Nat):Option Nat:=if N<=j then some (sel.length+(j-N))else sel.idxOf? j
theorem Az{sel:lXC}{N:Nat}(hn:sel.Nodup)(hs: ∀s∈sel,s<N)(i:Nat):k9 sel N (bU sel N i)=some i:=by
 by_cases hi:i<sel.length
 ·grind[eI,List.getElem_mem,k9,List.idxOf?_eq_some_iff,agW]
 grind[kj,k9]
theorem ld{sel:lXC}{N:Nat}{j i:Nat}(h:k9 sel N j=some i):bU sel N i=j/\(j<N->i<sel.length/\sel[i]? =some j):=by grind[k9,kj,List.idxOf?_eq_some_iff,eI]
def sA{sel:lXC}{N j:Nat}(h:k9 sel N j=none):j<N/\j∉sel:=by grind[k9]
section
variable{P:Program}{m:Mem}{γ:Gam}{ob:lXE}{w:World}
theorem km{ks:lXC}{j:Nat}:(dW ks ob)[j]? =match ks with|[]=>ob[j]? |k::ks=>(ob[j]?).map (mc (k::ks)):=by grind[dW]
theorem e9(ks:lXC):(dW ks ob).length=ob.length:=by cases ks<;>simp[dW]
theorem od(hi:Inv m γ ob w){sel:lXC}{obc:lXE}(hn:sel.Nodup)(hl:sel.length=obc.length)(hsel: ∀(i s:Nat)(X:Ob),sel[i]? =some s->obc[i]? =some X->ob[s]? =some (X.ren<|bU sel ob.length)/\X≠ .dead):Inv m (λk=>γ<|bU sel ob.length k) obc w:=by
 have key: ∀(i:Nat)(X:Ob),obc[i]? =some X-> ∃s:Nat,sel[i]? =some s/\ob[s]? =some (X.ren<|bU sel ob.length)/\X≠ .dead:=by
  intro i X hX;have hi':i<sel.length:=by have:=(afF.1 hX).1;omega
  have h1:sel[i]? =some sel[i]:=afR hi';exact⟨_,h1,hsel i _ X h1 hX⟩
 refine⟨hi.mem,λo X hX=> ?_,λo o' b C C' h1 h2 h3 h4=> ?_,λo b C h=>hi.dom _ b C h,λo h=> ?_,hi.tab⟩
 ·obtain⟨s,g1,g2,_⟩:=key o X hX;refine ng.2 ?_;rw[eI g1];exact hi.obj s _ g2
 ·obtain⟨X,hX,_⟩:=h1;obtain⟨Y,hY,_⟩:=h2;obtain⟨s,g1,g2,g3⟩:=key o X hX;obtain⟨t,k1,k2,k3⟩:=key o' Y hY;rw[eI g1]at h3;rw[eI k1]at h4;have dd: ∀{Z:Ob},Z≠ .dead->Z.ren (bU sel ob.length)≠ .dead:=by intro Z hZ;cases Z<;>simp_all[Ob.ren]
  have e:=hi.sep s t b C C' ⟨_,g2,dd g3⟩ ⟨_,k2,dd k3⟩ h3 h4;subst e;have o1:=(afF.1 g1).1;have o2:=(afF.1 k1).1;rcases Nat.lt_trichotomy o o' with h|h|h
  ·have:=agW.1 hn o o' o1 o2 h;rw[(afF.1 g1).2,(afF.1 k1).2]at this;exact absurd rfl this
  ·exact h
  ·have:=agW.1 hn o' o o2 o1 h;rw[(afF.1 g1).2,(afF.1 k1).2]at this;exact absurd rfl this
 ·by_cases h1:o<sel.length
  ·omega
  ·have h2:=hi.len _ h;rw[kj oaa]at h2;omega
theorem lg(hi:Inv m γ ob w){sel kk:lXC}{obc obc':lXE}(hn:sel.Nodup)(hl:sel.length=obc.length)(hsel: ∀(i s:Nat)(X:Ob),sel[i]? =some s->obc[i]? =some X->ob[s]? =some (X.ren<|bU sel ob.length)/\X≠ .dead)(hl':sel.length<=obc'.length)(hkk: ∀k∈kk,k<sel.length){m':Mem}{γc:Gam}{w':World}(ht:Trans m (λk=>γ<|bU sel ob.length k) w m' γc w')(hi':Inv m' γc obc' w')(hkeep: ∀o g,kk.contains o=false->γ (bU sel ob.length o)=some g->γc o=some g):∃γ',(∀i,γ' (bU sel ob.length i)=γc i)/\Trans m γ w m' γ' w'/\Le m γ (kk.map<|bU sel ob.length) m' γ'/\Inv m' γ' (back ob sel kk obc') w':=by
 have hs: ∀s∈sel,s<ob.length:=by
  intro s h;obtain⟨i,hi1,hi2⟩:=List.getElem_of_mem h;have h1:sel[i]? =some s:=by rw[afR hi1,hi2]
  have h2:obc[i]? =some (obc[i]'oaa):=afR oaa;exact(afF.1 (hsel i s _ h1 h2).1).1
 let f:=bU sel ob.length;let γ':Gam:=λj=>match k9 sel ob.length j with
  |some i=>γc i
  |none=>γ j
 have hf: ∀i,γ' (f i)=γc i:=λi=>by simp only[γ',f,Az hn hs]
 have hnone: ∀j,k9 sel ob.length j=none->γ' j=γ j:=λj h=>by simp only[γ',h]
 have hsome: ∀j i,k9 sel ob.length j=some i->γ' j=γc i:=λj i h=>by simp only[γ',h]
 have hingc: ∀k,InG (λk=>γ<|f k) k->InG γ k:=λk⟨o,C,h⟩=>⟨f o,C,h⟩;have hgam: ∀k,k<w.heap.size->InG γ' k->InG γ k:=by
  rintro k hk ⟨j,C,h⟩;cases hv:k9 sel ob.length j with
  |none=>rw[hnone j hv]at h;exact⟨j,C,h⟩
  |some i=>rw[hsome j i hv]at h;exact hingc k (ht.gam k hk ⟨i,C,h⟩)
 have htr:Trans m γ w m' γ' w':=⟨ht.mem,λa x h=>(ht.new a x h).imp id (Or.imp id<|hingc _),hgam,ht.os,ht.tape,ht.output,ht.size,λk hk hno=>ht.blk k hk (λh=>hno<|hingc k h)⟩;have hle:Le m γ (kk.map f) m' γ':=by
  refine⟨ht.mem,λo g hg hk=> ?_⟩;cases hv:k9 sel ob.length o with
  |none=>rw[hnone o hv];exact hg
  |some i=>
   rw[hsome o i hv];obtain⟨h1,_⟩:=ld hv;refine hkeep i g ?_ (by rw[h1];exact hg);cases hc:kk.contains i with
   |false=>rfl
   |true=>
    have:(kk.map f).contains o=true:=by simp only[List.contains_iff_mem,agl]at hc⊢;exact⟨i,hc,h1⟩
    rw[this]at hk;cases hk
 have hlenb:(back ob sel kk obc').length=ob.length+(obc'.length-sel.length):=by unfold back;simp[iS,e9]
 have htake:sel.length=((obc'.take sel.length).map<|Ob.ren f).length:=by simp;omega
 obtain⟨sg1,sg2⟩:=me (ob:=dW (kk.map f) ob) hn htake (λs h=>by rw[e9];exact hs s h);have hget: ∀j Y,(back ob sel kk obc')[j]? =some Y->(∃i X,k9 sel ob.length j=some i/\obc'[i]? =some X/\Y=X.ren f)\/(k9 sel ob.length j=none/\(dW (kk.map f) ob)[j]? =some Y):=by
  intro j Y hY;unfold back at hY;have hsl:(gv (dW (kk.map f) ob) sel<|(obc'.take sel.length).map<|Ob.ren f).length=ob.length:=by rw[iS,e9]
  by_cases hj:j<ob.length
  ·rw[afO (by rw[hsl];exact hj)]at hY;by_cases hjs:j∈sel
   ·left;obtain⟨i,hi1,hi2⟩:=List.getElem_of_mem hjs;have h1:sel[i]? =some j:=by rw[afR hi1,hi2]
    have h2:obc'[i]? =some (obc'[i]'oaa):=afR oaa;have h3:=sg1 i j ((obc'[i]'oaa).ren f) h1 (by rw[afM,agp,if_pos hi1,h2];rfl);rw[h3]at hY;cases hY;refine⟨i,_,?_,h2,rfl⟩;have:=Az hn hs i;rw[eI h1]at this;exact this
   ·right;rw[sg2 j hjs]at hY;refine⟨?_,hY⟩;unfold k9;rw[if_neg oaa];simpa using hjs
  ·left;rw[agb (by rw[hsl];omega),hsl,afM,agN]at hY;cases hX:obc'[sel.length+(j-ob.length)]? with
   |none=>simp[hX]at hY
   |some X=>rw[hX]at hY;simp only[afV,afD]at hY;refine⟨_,X,?_,hX,hY.symm⟩;unfold k9;rw[if_pos oaa]
 have hoth: ∀j Y,k9 sel ob.length j=none->(dW (kk.map f) ob)[j]? =some Y->Y≠ .dead-> ∃Z,ob[j]? =some Z/\Z≠ .dead/\(Y=Z\/Y=mc (kk.map f) Z):=by
  intro j Y hv hY hYd;rw[km]at hY;cases hkm:kk.map f with
  |nil=>rw[hkm]at hY;exact⟨Y,hY,hYd,.inl rfl⟩
  |cons k ks=>
   rw[hkm]at hY;simp only at hY;cases hZ:ob[j]? with
   |none=>simp[hZ]at hY
   |some Z=>rw[hZ]at hY;simp only[afV,afD]at hY;exact⟨Z,rfl,λe=>hYd (by rw[<-hY,e];rfl),.inr (by rw[<-hY])⟩
 have hapart: ∀j Z b C,k9 sel ob.length j=none->ob[j]? =some Z->Z≠ .dead->γ j=some (some (b,C))-> ¬InG (λk=>γ<|f k) b:=by
  rintro j Z b C hv hZ hZd hg ⟨i,C',h⟩;obtain⟨hjn,hjs⟩:=sA hv;by_cases hi1:i<sel.length
  ·have h1:sel[i]? =some sel[i]:=afR hi1;have h2:obc[i]? =some (obc[i]'oaa):=afR oaa;obtain⟨h3,h4⟩:=hsel i _ _ h1 h2;simp only[f]at h;rw[eI h1]at h;have:=hi.sep j _ b C C' ⟨Z,hZ,hZd⟩ ⟨_,h3,by intro e;cases hx:obc[i]'oaa<;>simp_all[Ob.ren]⟩ hg h;exact hjs (this▸List.getElem_mem hi1)
  ·have h':γ (f i)=some (some (b,C')):=h;have:=hi.len (f i) (by rw[h'];simp);simp only[f]at this;rw[kj oaa]at this;omega
 refine⟨γ',hf,htr,hle,⟨hi'.mem,λj Y hY=> ?_,λj j' b C C' l1 l2 h1 h2=> ?_,λj b C h=> ?_,λj h=> ?_,hi'.tab⟩⟩
 ·rcases hget j Y hY with⟨i,X,hv,hX,rfl⟩|⟨hv,hY2⟩
  ·obtain⟨h1,_⟩:=ld hv;have h2:=hi'.obj i X hX;have h3:gP m' (λk=>γ'<|f k) w' i X:=by have:(λk=>γ'<|f k)=γc:=funext hf;rw[this];exact h2
   have:=ng.1 h3;rw[show f i=j from h1]at this;exact this
  ·by_cases hYd:Y= .dead
   ·subst hYd;trivial
   ·obtain⟨Z,hZ,hZd,hYZ⟩:=hoth j Y hv hY2 hYd;have hnb:=hapart j Z;have hjk:(kk.map f).contains j=false:=by
     cases hc:(kk.map f).contains j with
     |false=>rfl
     |true=>simp only[List.contains_iff_mem,agl]at hc;obtain⟨k,hk1,hk2⟩:=hc;have hk3:=hkk k hk1;have h1:sel[k]? =some sel[k]:=afR hk3;simp only[f]at hk2;rw[eI h1]at hk2;exact absurd (hk2▸List.getElem_mem hk3) (sA hv).2
    have hob:=hi.obj j Z hZ;have hheap: ∀b C,γ j=some (some (b,C))->w'.heap[b]? =w.heap[b]? :=λb C hg=>ht.blk b (hi.dom j b C hg) (hnb b C hv hZ hZd hg);have hmm: ∀b C,γ j=some (some (b,C))-> ∀off,m ⟨b,off,none⟩=none->m' ⟨b,off,none⟩=none:=by
     intro b C hg off hno;cases hm':m' ⟨b,off,none⟩with
     |none=>rfl
     |some x=>
      exfalso;rcases ht.new _ x hm' with h|h|h
      ·rw[hno]at h;cases h
      ·have:=hi.dom j b C hg;simp at h;omega
      ·exact hnb b C hv hZ hZd hg h
    rcases hYZ with rfl|rfl
    ·by_cases hkm:kk.map f=[]
     ·rw[hkm]at hle;exact dU hob hle hheap hmm
     ·
      have hY3:=hY2;rw[km]at hY3;cases hq:kk.map f with
      |nil=>exact absurd hq hkm
      |cons k ks=>rw[hq]at hY3;simp only[hZ,afV,afD]at hY3;rw[<-hY3,<-hq];exact JQ hob hle hjk hheap hmm
    ·exact JQ hob hle hjk hheap hmm
 ·obtain⟨Y,hY,hYd⟩:=l1;obtain⟨Y',hY',hYd'⟩:=l2;have dd: ∀{Z:Ob},Z.ren f≠ .dead->Z≠ .dead:=by intro Z hZ e;subst e;exact hZ rfl
  rcases hget j Y hY with⟨i,X,hv,hX,rfl⟩|⟨hv,hY2⟩
  ·rcases hget j' Y' hY' with⟨i',X',hv',hX',rfl⟩|⟨hv',hY2'⟩
   ·rw[hsome j i hv]at h1;rw[hsome j' i' hv']at h2;have:=hi'.sep i i' b C C' ⟨X,hX,dd hYd⟩ ⟨X',hX',dd hYd'⟩ h1 h2;rw[<-(ld hv).1,<-(ld hv').1,this]
   ·exfalso;rw[hsome j i hv]at h1;rw[hnone j' hv']at h2;obtain⟨Z,hZ,hZd,_⟩:=hoth j' Y' hv' hY2' hYd';have hb:=hi.dom j' b C' h2;exact hapart j' Z b C' hv' hZ hZd h2 (ht.gam b hb ⟨i,C,h1⟩)
  ·obtain⟨Z,hZ,hZd,_⟩:=hoth j Y hv hY2 hYd;rw[hnone j hv]at h1;rcases hget j' Y' hY' with⟨i',X',hv',hX',rfl⟩|⟨hv',hY2'⟩
   ·exfalso;rw[hsome j' i' hv']at h2;exact hapart j Z b C hv hZ hZd h1 (ht.gam b (hi.dom j b C h1) ⟨i',C',h2⟩)
   ·obtain⟨Z',hZ',hZd',_⟩:=hoth j' Y' hv' hY2' hYd';rw[hnone j' hv']at h2;exact hi.sep j j' b C C' ⟨Z,hZ,hZd⟩ ⟨Z',hZ',hZd'⟩ h1 h2
 ·cases hv:k9 sel ob.length j with
  |none=>rw[hnone j hv]at h;exact agz (hi.dom j b C h) ht.size
  |some i=>rw[hsome j i hv]at h;exact hi'.dom i b C h
 ·rw[hlenb];cases hv:k9 sel ob.length j with
  |none=>have:=(sA hv).1;omega
  |some i=>
   rw[hsome j i hv]at h;have h1:=hi'.len i h;have h2:=(ld hv).1;by_cases h3:i<sel.length
   ·have h4:sel[i]? =some sel[i]:=afR h3;rw[eI h4]at h2;have:=hs _ (List.getElem_mem h3);omega
   ·rw[kj oaa]at h2;omega
end
end Go.Am
end
