/- An abstract machine: the tables that are known ahead: none. An abstract machine over the model's program logic, part A: abstract values, what they stand for in memory, and how that is kept when memory grows. An abstract machine, part B: live objects, the invariant, what one operation does, and a region's operations one behind the other or in any order that Go lets. An abstract machine, part C: a region whose operations Go may carry out in more than one order: what holds in the order of the text holds in each. An abstract machine, part D: code, loops, functions, calls. An abstract machine, part E: the operations, first half: those that hang on slots alone, or read. An abstract machine, part F: operators, lengths, indexes, pieces of slices. An abstract machine, part G: operations that make objects, write to them, or make memory that is never written again. An abstract machine, part H: stores, structs and slices built, append. An abstract machine, part I: structs and slices built; append. An abstract machine, part J: append to a live row; calls. An abstract machine, part K: a call sees of the objects just those that it is handed. -/
import GoSem.Claim
import Derived.WalkKit
import Derived.ProofKit
import Derived.Orders
import Derived.OrdersIn
import Derived.TacticsIn
import Derived.Sort.LoopGhostIn
import Derived.RangeFuncRecord
import Derived.RangeFuncLeaves
import Derived.Laws.StructEq
import Derived.Deep.LoopGhost
import Derived.Great.BuildSlice
import Derived.Deep.AppendSrc
namespace Go
theorem afJ:type_of% @Bool.and_eq_true:=@Bool.and_eq_true
theorem afM:type_of% @Option.some.injEq:=@Option.some.injEq
theorem afN:type_of% @of_decide_eq_false:=@of_decide_eq_false
theorem afP:type_of% @Nat.le_refl:=@Nat.le_refl
theorem afQ:type_of% @List.length_append:=@List.length_append
theorem afR:type_of% @List.getElem?_eq_some_iff:=@List.getElem?_eq_some_iff
theorem afS:type_of% @of_decide_eq_true:=@of_decide_eq_true
theorem afT:type_of% @decide_eq_true:=@decide_eq_true
theorem afU:type_of% @decide_eq_false:=@decide_eq_false
theorem afV:type_of% @Nat.eq_of_beq_eq_true:=@Nat.eq_of_beq_eq_true
theorem afW:type_of% @List.length_map:=@List.length_map
theorem afX:type_of% @ne_of_beq_false:=@ne_of_beq_false
theorem afY:type_of% @List.getElem?_map:=@List.getElem?_map
theorem afZ:type_of% @List.getElem?_append_left:=@List.getElem?_append_left
theorem af0:type_of% @List.getElem?_eq_getElem:=@List.getElem?_eq_getElem
theorem af1:type_of% @congrArg:=@congrArg
theorem af2:type_of% @cond_true:=@cond_true
theorem af3:type_of% @Bool.not_eq_true':=@Bool.not_eq_true'
theorem af4:type_of% @Bool.or_eq_false_iff:=@Bool.or_eq_false_iff
theorem af5:type_of% @List.getElem?_set_ne:=@List.getElem?_set_ne
theorem af6:type_of% @Option.map_some:=@Option.map_some
theorem af7:type_of% @Prod.mk.injEq:=@Prod.mk.injEq
theorem af8:type_of% @cond_false:=@cond_false
theorem af9:type_of% @List.map_cons:=@List.map_cons
theorem aga:type_of% @decide_eq_false_iff_not:=@decide_eq_false_iff_not
theorem agb:type_of% @List.length_cons:=@List.length_cons
theorem agc:type_of% @List.all_eq_true:=@List.all_eq_true
theorem agd:type_of% @List.ext_getElem?:=@List.ext_getElem?
theorem age:type_of% @List.length_set:=@List.length_set
theorem agf:type_of% @List.mem_cons_of_mem:=@List.mem_cons_of_mem
theorem agh:type_of% @List.getElem?_eq_none:=@List.getElem?_eq_none
theorem agi:type_of% @List.getElem?_set_self:=@List.getElem?_set_self
theorem agj:type_of% @List.take_length:=@List.take_length
theorem agk:type_of% @Array.getD_eq_getD_getElem?:=@Array.getD_eq_getD_getElem?
theorem agl:type_of% @List.getElem?_append_right:=@List.getElem?_append_right
theorem agm:type_of% @List.mem_map:=@List.mem_map
theorem agn:type_of% @Nat.zero_le:=@Nat.zero_le
theorem ago:type_of% @List.getElem?_replicate:=@List.getElem?_replicate
theorem agp:type_of% @List.eq_nil_of_length_eq_zero:=@List.eq_nil_of_length_eq_zero
theorem agq:type_of% @List.mem_cons:=@List.mem_cons
theorem agr:type_of% @Bool.not_eq_false':=@Bool.not_eq_false'
theorem ags:type_of% @Bool.true_and:=@Bool.true_and
theorem agt:type_of% @List.length_nil:=@List.length_nil
theorem agu:type_of% @Nat.le_trans:=@Nat.le_trans
theorem agv:type_of% @List.take_of_length_le:=@List.take_of_length_le
theorem agw:type_of% @List.length_take:=@List.length_take
theorem agx:type_of% @Nat.le_of_lt:=@Nat.le_of_lt
theorem agy:type_of% @List.mem_of_getElem?:=@List.mem_of_getElem?
theorem agz:type_of% @List.getD_eq_getElem?_getD:=@List.getD_eq_getElem?_getD
theorem agA:type_of% @List.append_nil:=@List.append_nil
theorem agB:type_of% @Nat.mul_le_mul_right:=@Nat.mul_le_mul_right
theorem agC:type_of% @List.mem_of_mem_take:=@List.mem_of_mem_take
theorem agD:type_of% @Nat.ne_of_beq_eq_false:=@Nat.ne_of_beq_eq_false
theorem agE:type_of% @List.getElem?_take:=@List.getElem?_take
theorem agF:type_of% @Nat.add_mul:=@Nat.add_mul
theorem agG:type_of% @List.take_append_drop:=@List.take_append_drop
theorem agH:type_of% @List.mem_append:=@List.mem_append
theorem agI:type_of% @bne_eq_false_iff_eq:=@bne_eq_false_iff_eq
theorem agJ:type_of% @Bool.not_false:=@Bool.not_false
theorem agK:type_of% @List.flatten_cons:=@List.flatten_cons
theorem agL:type_of% @Nat.lt_of_lt_of_le:=@Nat.lt_of_lt_of_le
theorem agM:type_of% @List.map_nil:=@List.map_nil
theorem agN:type_of% @Nat.ble_eq_true_of_le:=@Nat.ble_eq_true_of_le
theorem agO:type_of% @Nat.add_assoc:=@Nat.add_assoc
theorem agP:type_of% @List.getElem?_cons_zero:=@List.getElem?_cons_zero
theorem agQ:type_of% @Bool.and_self:=@Bool.and_self
theorem agR:type_of% @List.cons_append:=@List.cons_append
theorem agS:type_of% @Int.fdiv_eq_ediv_of_nonneg:=@Int.fdiv_eq_ediv_of_nonneg
theorem agT:type_of% @Array.length_toList:=@Array.length_toList
theorem agU:type_of% @List.map_congr_left:=@List.map_congr_left
theorem agV:type_of% @Array.getElem?_eq_getElem:=@Array.getElem?_eq_getElem
theorem agW:type_of% @List.nodup_nil:=@List.nodup_nil
theorem agX:type_of% @if_true:=@if_true
theorem agY:type_of% @List.length_replicate:=@List.length_replicate
theorem agZ:type_of% @List.mem_singleton:=@List.mem_singleton
theorem ag0:type_of% @Bool.not_not:=@Bool.not_not
theorem ag1:type_of% @List.append_assoc:=@List.append_assoc
theorem ag2:type_of% @Int.toNat_natCast:=@Int.toNat_natCast
theorem ag3:type_of% @Bool.or_eq_true:=@Bool.or_eq_true
theorem ag4:type_of% @List.length_drop:=@List.length_drop
theorem ag5:type_of% @List.not_mem_nil:=@List.not_mem_nil
theorem ag6:type_of% @List.getElem?_drop:=@List.getElem?_drop
theorem ag7:type_of% @List.mem_cons_self:=@List.mem_cons_self
theorem ag8:type_of% @List.mem_append_left:=@List.mem_append_left
theorem ag9:type_of% @List.size_toArray:=@List.size_toArray
theorem aha:type_of% @List.all_cons:=@List.all_cons
theorem ahb:type_of% @List.map_toArray:=@List.map_toArray
theorem ahc:type_of% @Nat.lt_succ_self:=@Nat.lt_succ_self
theorem ahd:type_of% @beq_iff_eq:=@beq_iff_eq
theorem ahe:type_of% @List.map_append:=@List.map_append
theorem ahf:type_of% @Nat.zero_add:=@Nat.zero_add
theorem ahg:type_of% @List.cons.injEq:=@List.cons.injEq
theorem ahh:type_of% @Option.some.inj:=@Option.some.inj
end Go
set_option linter.defProp false
open Go.IntKind (wrap)
namespace Go
abbrev lXA:=List Int
abbrev lXB:=List Bool
abbrev lXC:=List Nat
abbrev lXD:=List ByteArray
theorem nbl{a b:Nat}(h:Nat.ble a b=true):a≤b:=Nat.le_of_ble_eq_true h
end Go
noncomputable section
open List (length map range replicate)
namespace Go
section
variable{p:Prop}
theorem oaa(h:p:=by omega):p:=h
theorem oab(h:p:=by kernel_rfl):p:=h
theorem oac(h:p:=by repeat' first|exact bz|refine mqc ?_ ?_|exact .inl ⟨rfl,rfl⟩|exact .inr ⟨rfl,by simp⟩):p:=h
theorem oad(h:p:=by first|rfl|(simp only[afW,age,afQ]at*;omega)):p:=h
theorem oae(h:p:=by repeat' first|exact bz|refine mqc ?_ ?_|exact .inl rfl|exact .inr (by simp)):p:=h
theorem oaf(h:p:=by rw[lml,agO,<-afQ,<-afQ];exact hL):p:=h
theorem oag(h:p:=by simp[AV.pure,aj,ak]):p:=h
theorem oah(h:p:=by rw[aT 1 _ oag];exact Bool.or_true _):p:=h
theorem oai(h:p:=by simp only[afQ,agb,agt];omega):p:=h
theorem oaj(h:p:=by simp):p:=h
theorem oak(h:p:=by rw[ha];simp only[afQ]):p:=h
theorem oal(h:p:=by have:=hB.all;simp only[dt,ay,afQ]at this;rw[lmr,lms];omega):p:=h
theorem oam(h:p:=by simp only[eT,afQ,agb,agt]):p:=h
theorem oan(h:p:=by grind[Code.inR]):p:=h
theorem oao(h:p:=by cases e):p:=h
theorem oap(h:p:=by cases h):p:=h
theorem oaq(h:p:=by simp[ja,plS,plO,AV.pure,aj,ak]):p:=h
theorem oar(h:p:=by simp[jb,plS,plO,AV.pure,aj,ak]):p:=h
theorem oas(h:p:=by repeat' first|exact bz|refine mqc ?_ ?_|exact .inl ⟨rfl,rfl⟩|exact .inl ⟨rfl,aT _ _ oaj⟩|exact .inr ⟨rfl,rfl,aT _ _ oaj⟩):p:=h
theorem oat(h:p:=by simp[aj,ak,AV.pure]):p:=h
theorem oau(h:p:=by simpa [cc,agO]using hL):p:=h
theorem oav(h:p:=by have:=hL;rw[fF]at this;simp only[afQ]at this;omega):p:=h
theorem oaw(h:p:=by simp[ky,plS,AV.pure]):p:=h
theorem oax(h:p:=by simp[kz,plS,AV.pure]):p:=h
theorem oay(h:p:=by decide):p:=h
theorem oaz(h:p:=by simp_all):p:=h
theorem oaA(h:p:=by simp;omega):p:=h
theorem oaB(h:p:=by have:=hL;rw[fF]at this;simpa [agO]using this):p:=h
theorem oaC(h:p:=by first|omega|(simp only[afQ,agb,agt];try omega)):p:=h
theorem oaD(h:p:=by simp[iI,plS,plO,AV.pure,aj,ak]):p:=h
theorem oaE(h:p:=by simp[lG,plS,plO,AV.pure,aj,ak]):p:=h
theorem oaF(h:p:=by have:=DH g.kids ls hK;rw[all_eq]at this;exact this):p:=h
theorem oaG(h:p:=by simp[AV.pure,bc bY]):p:=h
theorem oaH(h:p:=by simp[Ob.und,bj bY]):p:=h
theorem oaI(h:p:=by grind):p:=h
theorem oaJ(h:p:=by simp[iH,plS,AV.pure,aj,ak]):p:=h
theorem oaK(h:p:=by rw[fZ h.kl hk];exact afT<|show((eI g w:Nat):Int)<(length (map dk<|ae g (ae w.2.2<|w.1-1).1):Int) by rw[afW];omega):p:=h
theorem oaL(h:p:=by rw[hg];simp):p:=h
theorem oaM(h:p:=by simpa using h):p:=h
theorem oaN(h:p:=by rw[afW];omega):p:=h
theorem oaO(h:p:=by have:=hL;simp only[afQ]at this;omega):p:=h
theorem oaP(h:p:=by rw[<-afQ];exact hL):p:=h
theorem oaQ(h:p:=by simp[vs];omega):p:=h
theorem oaR(h:p:=by rw[hI.1];have:=(hn.to _ (aw hx0) _<|aw hx2);omega):p:=h
theorem oaS(h:p:=by simp only[ay,afQ]):p:=h
theorem oaT(h:p:=by simp only[age,afQ,agw,agb,agt];omega):p:=h
theorem oaU(h:p:=by simp[kJ,plS,plO,AV.pure,aj,ak]):p:=h
theorem oaV(h:p:=by have:=hL;simp only[cp,afQ,agb,agt]at this;omega):p:=h
theorem oaW(h:p:=by rw[<-hobc];simp only[af9,List.getElem?_cons_succ,agP,jZ]):p:=h
theorem oaX(h:p:=by have:=hf.ah _ (aw hi);omega):p:=h
theorem oaY(h:p:=by simp[kI,plS,AV.pure,aj,ak]):p:=h
theorem oaZ(h:p:=by simpa using hl):p:=h
theorem oa0(h:p:=by rw[hI.2.1];have:=hn.2 _ (aw hx0);omega):p:=h
theorem oa1(h:p:=by rw[<-e];rfl):p:=h
theorem oa2(h:p:=by simpa [az,fq]using hL):p:=h
theorem oa3(h:p:=by unfold World.freeze;split<;>rfl):p:=h
theorem oa4(h:p:=by simp[iJ,plS,plO,AV.pure,aj,ak]):p:=h
end
end Go
namespace Go.Am
def Si:List (Nat×List Value):=[]
def AO(a:Addr):Option Value:=match a.spot with
 |none=>match Si.lookup a.block with
  |some cs=>cs[a.off]?
  |none=>none
 |some _=>none
structure Mem where
 get:Addr->Option Value
 has: ∀a x,AO a=some x->get a=some x
instance:CoeFun Mem λ_=>Addr->Option Value:=⟨Mem.get⟩
abbrev Gam:=Nat->Option (Option<|Nat×Nat)
inductive AV where
 |any
 |v (x:Value)
 |sl (S:Nat) (rows:List (List AV))
 |ag (cells:List AV)
 |tu (vs:List AV)
 |pt (o off:Nat)
 |pf (cells:List AV)
 |sr (o S lo len:Nat)
 |fn (f:Fn) (first captured:List AV)
 |ifc (t:TypeId) (x:AV)
 |mp (o:Nat)
 |yl (o:Nat)
 |cl (S:Nat) (rows:List (List AV))
 deriving Inhabited
abbrev lXF:=List AV
mutual
def Rep (m:Mem) (γ:Gam):AV->Value->Prop
 | .any,_=>True
 | .v y,x=>x=y
 | .sl S rows,x=> ∃a len cap,x= .slice a len cap/\len=rows.length/\len<=cap/\(rows=[]\/ ∃b off,a=some ⟨b,off,none⟩/\bP m γ S rows b off)
 | .ag cs,x=> ∃xs:List Value,x= .agg xs.toArray/\aB m γ cs xs
 | .tu cs,x=> ∃xs:List Value,x= .tuple xs.toArray/\aB m γ cs xs
 | .pt o off,x=> ∃b C,γ o=some (some (b,C))/\x= .pointer (some ⟨b,off,none⟩)
 | .pf cs,x=> ∃b off,x= .pointer (some ⟨b,off,none⟩)/\bK m γ cs b off
 | .sr o S lo len,x=>(γ o=some none/\(∃a,x= .slice a 0 0)/\lo=0/\len=0)\/ ∃b C cap,γ o=some (some (b,C))/\lo+len<=C/\len<=cap/\cap<=C-lo/\(x= .slice (some ⟨b,lo*S,none⟩) len cap\/(len=0/\lo≠0/\ ∃a,x= .slice a 0 cap))
 | .fn f fs cs,x=> ∃xs ys:List Value,x= .func f xs.toArray ys.toArray/\aB m γ fs xs/\aB m γ cs ys
 | .ifc t y,x=> ∃z,x= .iface t z/\Rep m γ y z
 | .mp o,x=> ∃b C,γ o=some (some (b,C))/\x= .map (some b)
 | .yl o,x=> ∃b C,γ o=some (some (b,C))/\x= .func (.yield b) #[] #[]
 | .cl S rows,x=> ∃a len,x= .slice a len len/\len=rows.length/\(rows=[]\/ ∃b off,a=some ⟨b,off,none⟩/\bP m γ S rows b off)
def aB (m:Mem) (γ:Gam):lXF->List Value->Prop
 |[],xs=>xs=[]
 |c::cs,xs=> ∃x r,xs=x::r/\Rep m γ c x/\aB m γ cs r
def bK (m:Mem) (γ:Gam):lXF->Nat->Nat->Prop
 |[],_,_=>True
 |c::cs,b,off=>(∃x,m ⟨b,off,none⟩=some x/\Rep m γ c x)/\bK m γ cs b (off+1)
def bP (m:Mem) (γ:Gam) (S:Nat):List lXF->Nat->Nat->Prop
 |[],_,_=>True
 |r::rs,b,off=>r.length=S/\bK m γ r b off/\bP m γ S rs b (off+S)
end
mutual
def AV.free (ks:lXC):AV->Bool
 | .any=>true
 | .v _=>true
 | .sl _ rows=>fy ks rows
 | .ag cs=>dc ks cs
 | .tu cs=>dc ks cs
 | .pt o _=> !ks.contains o
 | .pf cs=>dc ks cs
 | .sr o _ _ _=> !ks.contains o
 | .fn _ fs cs=>dc ks fs&&dc ks cs
 | .ifc _ y=>y.free ks
 | .mp o=> !ks.contains o
 | .yl o=> !ks.contains o
 | .cl _ rows=>fy ks rows
def dc (ks:lXC):lXF->Bool
 |[]=>true
 |c::cs=>c.free ks&&dc ks cs
def fy (ks:lXC):List lXF->Bool
 |[]=>true
 |r::rs=>dc ks r&&fy ks rs
end
mutual
theorem AV.eX: ∀av:AV,av.free []=true
 | .any=>by simp[AV.free]
 | .v _=>by simp[AV.free]
 | .sl _ rows=>by simp[AV.free,jM rows]
 | .ag cs=>by simp[AV.free,dm cs]
 | .tu cs=>by simp[AV.free,dm cs]
 | .pt o _=>by simp[AV.free]
 | .pf cs=>by simp[AV.free,dm cs]
 | .sr o _ _ _=>by simp[AV.free]
 | .fn _ fs cs=>by simp[AV.free,dm fs,dm cs]
 | .ifc _ y=>by simp[AV.free,AV.eX y]
 | .mp o=>by simp[AV.free]
 | .yl o=>by simp[AV.free]
 | .cl _ rows=>by simp[AV.free,jM rows]
theorem dm: ∀cs:lXF,dc [] cs=true
 |[]=>by simp[dc]
 |c::cs=>by simp[dc,AV.eX c,dm cs]
theorem jM: ∀rows:List lXF,fy [] rows=true
 |[]=>by simp[fy]
 |r::rs=>by simp[fy,dm r,jM rs]
end
structure Le(m:Mem)(γ:Gam)(ks:lXC)(m':Mem)(γ':Gam):Prop where
 mem: ∀a x,m a=some x->m' a=some x
 gam: ∀o g,γ o=some g->ks.contains o=false->γ' o=some g
section
variable{m m':Mem}{γ γ':Gam}{ks:lXC}
mutual
theorem gg (h:Le m γ ks m' γ'): ∀(av:AV)(x:Value),av.free ks=true->Rep m γ av x->Rep m' γ' av x
 | .any,_,_,_=>by simp[Rep]
 | .v _,_,_,hr=>by simpa [Rep]using hr
 | .sl S rows,_,hf,hr=>by simp only[AV.free]at hf;simp only[Rep]at hr⊢;obtain⟨a,len,cap,h1,h2,h3,h4⟩:=hr;refine⟨a,len,cap,h1,h2,h3,h4.imp id ?_⟩;rintro⟨b,off,h5,h6⟩;exact⟨b,off,h5,mh h S rows b off hf h6⟩
 | .ag cs,_,hf,hr=>by simp only[AV.free]at hf;simp only[Rep]at hr⊢;obtain⟨xs,h1,h2⟩:=hr;exact⟨xs,h1,dR h cs xs hf h2⟩
 | .tu cs,_,hf,hr=>by simp only[AV.free]at hf;simp only[Rep]at hr⊢;obtain⟨xs,h1,h2⟩:=hr;exact⟨xs,h1,dR h cs xs hf h2⟩
 | .pt o off,_,hf,hr=>by simp only[AV.free,af3]at hf;simp only[Rep]at hr⊢;obtain⟨b,C,h1,h2⟩:=hr;exact⟨b,C,h.gam o _ h1 hf,h2⟩
 | .pf cs,_,hf,hr=>by simp only[AV.free]at hf;simp only[Rep]at hr⊢;obtain⟨b,off,h1,h2⟩:=hr;exact⟨b,off,h1,kM h cs b off hf h2⟩
 | .sr o S lo len,_,hf,hr=>by
  simp only[AV.free,af3]at hf;simp only[Rep]at hr⊢;rcases hr with⟨h1,h2⟩|⟨b,C,cap,h1,h2⟩
  ·exact .inl ⟨h.gam o _ h1 hf,h2⟩
  ·exact .inr ⟨b,C,cap,h.gam o _ h1 hf,h2⟩
 | .fn f fs cs,_,hf,hr=>by simp only[AV.free,afJ]at hf;simp only[Rep]at hr⊢;obtain⟨xs,ys,h1,h2,h3⟩:=hr;exact⟨xs,ys,h1,dR h fs xs hf.1 h2,dR h cs ys hf.2 h3⟩
 | .ifc t y,_,hf,hr=>by simp only[AV.free]at hf;simp only[Rep]at hr⊢;obtain⟨z,h1,h2⟩:=hr;exact⟨z,h1,gg h y z hf h2⟩
 | .mp o,_,hf,hr=>by simp only[AV.free,af3]at hf;simp only[Rep]at hr⊢;obtain⟨b,C,h1,h2⟩:=hr;exact⟨b,C,h.gam o _ h1 hf,h2⟩
 | .yl o,_,hf,hr=>by simp only[AV.free,af3]at hf;simp only[Rep]at hr⊢;obtain⟨b,C,h1,h2⟩:=hr;exact⟨b,C,h.gam o _ h1 hf,h2⟩
 | .cl S rows,_,hf,hr=>by simp only[AV.free]at hf;simp only[Rep]at hr⊢;obtain⟨a,len,h1,h2,h4⟩:=hr;refine⟨a,len,h1,h2,h4.imp id ?_⟩;rintro⟨b,off,h5,h6⟩;exact⟨b,off,h5,mh h S rows b off hf h6⟩
theorem dR (h:Le m γ ks m' γ'): ∀(cs:lXF)(xs:List Value),dc ks cs=true->aB m γ cs xs->aB m' γ' cs xs
 |[],_,_,hr=>by simpa [aB]using hr
 |c::cs,_,hf,hr=>by simp only[dc,afJ]at hf;simp only[aB]at hr⊢;obtain⟨x,r,h1,h2,h3⟩:=hr;exact⟨x,r,h1,gg h c x hf.1 h2,dR h cs r hf.2 h3⟩
theorem kM (h:Le m γ ks m' γ'): ∀(cs:lXF)(b off:Nat),dc ks cs=true->bK m γ cs b off->bK m' γ' cs b off
 |[],_,_,_,_=>by simp[bK]
 |c::cs,b,off,hf,hr=>by simp only[dc,afJ]at hf;simp only[bK]at hr⊢;obtain⟨⟨x,h1,h2⟩,h3⟩:=hr;exact⟨⟨x,h.mem _ _ h1,gg h c x hf.1 h2⟩,kM h cs b (off+1) hf.2 h3⟩
theorem mh (h:Le m γ ks m' γ') (S:Nat): ∀(rows:List lXF)(b off:Nat),fy ks rows=true->bP m γ S rows b off->bP m' γ' S rows b off
 |[],_,_,_,_=>by simp[bP]
 |r::rs,b,off,hf,hr=>by simp only[fy,afJ]at hf;simp only[bP]at hr⊢;obtain⟨h1,h2,h3⟩:=hr;exact⟨h1,kM h r b off hf.1 h2,mh h S rs b (off+S) hf.2 h3⟩
end
end
section
variable{m:Mem}{γ:Gam}
theorem aX: ∀{cs:lXF}{xs:List Value},aB m γ cs xs->xs.length=cs.length
 |[],_,h=>by simp only[aB]at h;simp[h]
 |c::cs,_,h=>by simp only[aB]at h;obtain⟨x,r,rfl,_,h3⟩:=h;simp[aX h3]
theorem cd: ∀{cs:lXF}{xs:List Value},aB m γ cs xs-> ∀(i:Nat)(c:AV),cs[i]? =some c-> ∃x,xs[i]? =some x/\Rep m γ c x
 |[],_,_,i,c,hc=>by simp at hc
 |d::cs,_,h,i,c,hc=>by
  simp only[aB]at h;obtain⟨x,r,rfl,h2,h3⟩:=h;cases i with
  |zero=>simp_all
  |succ i=>simpa using cd h3 i c (by simpa using hc)
theorem dj: ∀{cs:lXF}{xs:List Value},xs.length=cs.length->(∀(i:Nat)(c:AV)(x:Value),cs[i]? =some c->xs[i]? =some x->Rep m γ c x)->aB m γ cs xs
 |[],xs,hl,_=>by simp only[aB];simpa using hl
 |c::cs,[],hl,_=>by simp at hl
 |c::cs,x::xs,hl,h=>by simp only[aB];exact⟨x,xs,rfl,h 0 c x rfl rfl,dj oaZ (λi d y hd hy=>h (i+1) d y (by simpa using hd)<|by simpa using hy)⟩
theorem cL{cs ds:lXF}{xs ys:List Value}(h:aB m γ cs xs)(k:aB m γ ds ys):aB m γ (cs++ds) (xs++ys):=by
 induction cs generalizing xs with
 |nil=>grind[aB]
 |cons c cs ih=>grind[aB]
section
variable{cs:lXF}{xs:List Value}
theorem E4(h:aB m γ cs xs)(i:Nat){c:AV}{x:Value}(hx:Rep m γ c x):aB m γ (cs.set i c) (xs.set i x):=by grind[dj,aX,cd]
theorem eY(h:aB m γ cs xs)(i:Nat):aB m γ (cs.drop i) (xs.drop i):=by grind[dj,aX,cd]
theorem eg(h:aB m γ cs xs)(i:Nat):aB m γ (cs.take i) (xs.take i):=by grind[dj,aX,cd]
end
theorem qo: ∀{cs:lXF}{b off:Nat},bK m γ cs b off-> ∀(i:Nat)(c:AV),cs[i]? =some c-> ∃x,m ⟨b,off+i,none⟩=some x/\Rep m γ c x
 |[],_,_,_,i,c,hc=>by simp at hc
 |d::cs,b,off,h,i,c,hc=>by
  simp only[bK]at h;obtain⟨⟨x,h1,h2⟩,h3⟩:=h;cases i with
  |zero=>simp_all
  |succ i=>obtain⟨y,hy,hr⟩:=qo h3 i c (by simpa using hc);grind
theorem fS: ∀{cs:lXF}{b off:Nat},bK m γ cs b off-> ∀(i:Nat),bK m γ (cs.drop i) b (off+i)
 |cs,b,off,h,0=>by simpa using h
 |[],_,_,_,i+1=>by simp[bK]
 |d::cs,b,off,h,i+1=>by simp only[bK]at h;have:=fS h.2 i;grind
theorem eW: ∀{cs:lXF}{b off:Nat},(∀(i:Nat)(c:AV),cs[i]? =some c-> ∃x,m ⟨b,off+i,none⟩=some x/\Rep m γ c x)->bK m γ cs b off
 |[],_,_,_=>by simp[bK]
 |c::cs,b,off,h=>by simp only[bK];refine⟨by simpa using h 0 c rfl,eW λi d hd=> ?_⟩;obtain⟨x,hx,hr⟩:=h (i+1) d (by simpa using hd);grind
theorem lj: ∀{cs:lXF}{b off:Nat},bK m γ cs b off-> ∃xs:List Value,aB m γ cs xs/\ ∀(i:Nat)(x:Value),xs[i]? =some x->m ⟨b,off+i,none⟩=some x
 |[],_,_,_=>⟨[],by simp[aB],by simp⟩
 |c::cs,b,off,h=>by simp only[bK]at h;obtain⟨⟨x,h1,h2⟩,h3⟩:=h;obtain⟨xs,k1,k2⟩:=lj h3;refine⟨x::xs,by grind[aB],λi y hy=> ?_⟩;grind
theorem jm{S:Nat}: ∀{rows:List lXF}{b off:Nat},bP m γ S rows b off-> ∀(i:Nat)(r:lXF),rows[i]? =some r->r.length=S/\bK m γ r b (off+i*S)
 |[],_,_,_,i,r,hr=>by simp at hr
 |q::rs,b,off,h,i,r,hr=>by
  simp only[bP]at h;obtain⟨h1,h2,h3⟩:=h;cases i with
  |zero=>simp_all
  |succ i=>obtain⟨k1,k2⟩:=jm h3 i r (by simpa using hr);grind
theorem ir{S:Nat}: ∀{rows:List lXF}{b off:Nat},(∀(i:Nat)(r:lXF),rows[i]? =some r->r.length=S/\bK m γ r b (off+i*S))->bP m γ S rows b off
 |[],_,_,_=>by simp[bP]
 |q::rs,b,off,h=>by simp only[bP];have h0:=h 0 q rfl;refine⟨h0.1,by simpa using h0.2,ir λi r hr=> ?_⟩;obtain⟨k1,k2⟩:=h (i+1) r (by simpa using hr);grind
section
variable{S:Nat}{rows:List lXF}{b off:Nat}
theorem jN(h:bP m γ S rows b off)(i:Nat):bP m γ S (rows.drop i) b (off+i*S):=by refine ir λj r hr=> ?_;rw[ag6]at hr;obtain⟨k1,k2⟩:=jm h _ r hr;grind
theorem jO(h:bP m γ S rows b off)(i:Nat):bP m γ S (rows.take i) b off:=by refine ir λj r hr=> ?_;grind[jm]
end
end
structure tJ where
 n:Nat
 ps:Array Tmp
 assign:Code
 body:Code
 jump:Option Code
def tJ.free(k:tJ):Bool:=match k.jump with
 |none=>true
 |some _=>false
def tJ.left(k:tJ):Option Code->tJ
 |none=>k
 |some c=>⟨k.n,k.ps,k.assign,k.body,some c⟩
def tJ.state(k:tJ)(busy:Bool):LoopState:=match k.jump with
 |none=>cond busy .busy .ready
 |some _=> .done
inductive Ob where
 |dead
 |box (T:TypeId) (cells:lXF)
 |row (T:TypeId) (S:Nat) (rows:List lXF)
 |mp (keys:List Value) (vals:lXF)
 |lp (busy:Bool) (k:tJ) (ts:lXC) (cs:lXF)
 deriving Inhabited
abbrev lXE:=List Ob
def CA(w:World)(b:Nat)(cs:Array Value)(T:TypeId):Prop:= ∃fr:Nat×Nat,w.heap[b]? =some (.cells cs T fr)/\(fr=(0,0)\/fr.1=cs.size)
def CA.of_eq{w w':World}{b:Nat}{cs:Array Value}{T:TypeId}(h:CA w b cs T)(e:w'.heap[b]? =w.heap[b]?):CA w' b cs T:=by obtain⟨fr,h1,h2⟩:=h;exact⟨fr,e.trans h1,h2⟩
section
variable{w:World}{b:Nat}{cs:Array Value}{T:TypeId}
theorem CA.lH(h:w.heap[b]? =some (.cells cs T (0,0))):CA w b cs T:=⟨_,h,.inl rfl⟩
theorem CA.cell(h:CA w b cs T)(i:Nat):w.cell? ⟨b,i,none⟩=cs[i]? :=by obtain⟨fr,h1,_⟩:=h;simp[World.cell?,h1]
end
def iL(m:Mem)(γ:Gam)(w:World)(o:Nat):Ob->Prop
 | .dead=>True
 | .box T cells=> ∃b cs,γ o=some (some (b,0))/\w.heap[b]? =some (.cells cs T (0,0))/\aB m γ cells cs.toList/\ ∀off,m ⟨b,off,none⟩=none
 | .row T S rows=>(γ o=some none/\rows=[])\/
   ∃b C cs,γ o=some (some (b,C))/\CA w b cs T/\cs.size=C*S/\rows.length<=C/\C<=maxLen/\(∀r∈rows,r.length=S)/\
    aB m γ rows.flatten (cs.toList.take<|rows.length*S)/\ ∀off,m ⟨b,off,none⟩=none
 | .mp keys vals=> ∃b es clock,γ o=some (some (b,0))/\w.heap[b]? =some (.map es clock)/\es.toList.map (·.key)=keys/\aB m γ vals (es.toList.map (·.val))/\ ∀off,m ⟨b,off,none⟩=none
 | .lp busy k ts cs=> ∃b r xs,γ o=some (some (b,0))/\w.heap[b]? =some (.loop r)/\(r.state=k.state busy/\r.pending=k.jump/\r.params=k.ps/\r.assign=k.assign/\r.body=k.body/\r.tmps.size=k.n)/\
   aB m γ cs xs/\(∀(i t:Nat)(x:Value),ts[i]? =some t->xs[i]? =some x->t<k.n/\r.tmps.getD t undef=x)/\ ∀off,m ⟨b,off,none⟩=none
def live(ob:lXE)(o:Nat):Prop:= ∃X,ob[o]? =some X/\X≠ .dead
def InG(γ:Gam)(k:Nat):Prop:= ∃o C,γ o=some (some (k,C))
structure Inv(m:Mem)(γ:Gam)(ob:lXE)(w:World):Prop where
 mem: ∀a x,m a=some x->w.cell? a=some x
 obj: ∀o X,ob[o]? =some X->iL m γ w o X
 sep: ∀o o' b C C',live ob o->live ob o' ->γ o=some (some (b,C))->γ o'=some (some (b,C'))->o=o'
 dom: ∀o b C,γ o=some (some (b,C))->b<w.heap.size
 len: ∀o,γ o≠none->o<ob.length
structure Trans(m:Mem)(γ:Gam)(w:World)(m':Mem)(γ':Gam)(w':World):Prop where
 mem: ∀a x,m a=some x->m' a=some x
 new: ∀a x,m' a=some x->m a=some x\/w.heap.size<=a.block\/InG γ a.block
 gam: ∀k,k<w.heap.size->InG γ' k->InG γ k
 os:w'.os=w.os
 tape:w'.tape=w.tape
 output:w'.output=w.output
 size:w.heap.size<=w'.heap.size
 blk: ∀k,k<w.heap.size-> ¬InG γ k->w'.heap[k]? =w.heap[k]?
theorem Trans.refl(m:Mem)(γ:Gam)(w:World):Trans m γ w m γ w:=⟨λ_ _ h=>h,λ_ _ h=> .inl h,λ_ _ h=>h,rfl,rfl,rfl,afP _,λ_ _ _=>rfl⟩
theorem Trans.trans{m m1 m2:Mem}{γ γ1 γ2:Gam}{w w1 w2:World}(h:Trans m γ w m1 γ1 w1)(k:Trans m1 γ1 w1 m2 γ2 w2):Trans m γ w m2 γ2 w2 where
 mem a x hx:=k.mem a x (h.mem a x hx)
 new a x hx:=by
  rcases k.new a x hx with h1|h1|h1
  ·exact h.new a x h1
  ·grind[h.size]
  ·by_cases hb:a.block<w.heap.size
   ·exact .inr (.inr<|h.gam _ hb h1)
   ·exact .inr (.inl oaa)
 gam b hb hi:=h.gam b hb (k.gam b (agL hb h.size) hi)
 os:=k.os.trans h.os
 tape:=k.tape.trans h.tape
 output:=k.output.trans h.output
 size:=agu h.size k.size
 blk b hb hn:=(k.blk b (agL hb h.size)<|λhi=>hn<|h.gam b hb hi).trans (h.blk b hb hn)
abbrev Loc:=List (Nat×AV)
def lk:Loc->Nat->Option AV
 |[],_=>none
 |(s,av)::L,t=>cond (Nat.beq s t) (some av) (lk L t)
def Sub(L L':Loc):Prop:= ∀t av,lk L t=some av->lk L' t=some av\/(av= .any/\ ∃b,lk L' t=some b)
def E5(ks:lXC):Loc->Loc
 |[]=>[]
 |(t,av)::L=>(t,cond (av.free ks) av .any)::E5 ks L
def b9(m:Mem)(γ:Gam)(a:Act)(L:Loc):Prop:= ∀t av,lk L t=some av->t<a.tmps.size/\Rep m γ av (a.tmps.getD t undef)
theorem Sub.refl(L:Loc):Sub L L:=λ_ _ h=> .inl h
def Sub.trans{L L1 L2:Loc}(h:Sub L L1)(k:Sub L1 L2):Sub L L2:=by
 intro t av e;rcases h t av e with h1|⟨rfl,b,h1⟩
 ·exact k t av h1
 ·rcases k t b h1 with h2|⟨rfl,c,h2⟩
  ·exact .inr ⟨rfl,b,h2⟩
  ·exact .inr ⟨rfl,c,h2⟩
theorem Sub.nil(L:Loc):Sub [] L:=λt av e=>by simp[lk]at e
theorem dP(s:Nat)(av:AV)(L:Loc)(t:Nat):lk ((s,av)::L) t=if s=t then some av else lk L t:=by simp_all[lk]
theorem Sub.cons{s:Nat}{av:AV}{L L':Loc}(h:lk L' s=some av)(k:Sub L L'):Sub ((s,av)::L) L':=by
 intro t b e;rw[dP]at e;split at e
 ·simp_all
 ·exact k t b e
def b9.sub{m:Mem}{γ:Gam}{a:Act}{L L':Loc}(h:b9 m γ a L')(k:Sub L L'):b9 m γ a L:=λt av e=>by
 rcases k t av e with h1|⟨rfl,b,h1⟩
 ·exact h t av h1
 ·exact⟨(h t b h1).1,by simp[Rep]⟩
theorem vN(ks:lXC): ∀(L:Loc)(t:Nat),lk (E5 ks L) t=(lk L t).map λav=>cond (av.free ks) av .any
 |[],t=>rfl
 |(s,av)::L,t=>by
  simp only[E5];rw[dP,dP];split
  ·rfl
  ·exact vN ks L t
section
variable{m m':Mem}{γ γ':Gam}
theorem b9.le{ks:lXC}{a:Act}{L:Loc}(h:b9 m γ a L)(hle:Le m γ ks m' γ'):b9 m' γ' a (E5 ks L):=by
 intro t av e;rw[vN]at e;cases hl:lk L t with
 |none=>simp[hl]at e
 |some b=>rw[hl]at e;simp only[af6,afM]at e;obtain⟨h1,h2⟩:=h t b hl;grind[gg,Rep]
def b9.le_nil{a:Act}{L:Loc}(h:b9 m γ a L)(hle:Le m γ [] m' γ'):b9 m' γ' a L:=λt av e=>⟨(h t av e).1,gg hle av _ (AV.eX av) (h t av e).2⟩
end
def tb(t i:Nat):Bool:=Nat.beq (Nat.land (Nat.shiftRight t i) 1) 1
def bit(k:Nat):Nat:=Nat.shiftLeft 1 k
theorem aag(a b:Nat):Nat.beq a b=decide (a=b):=by grind[afV,agD]
theorem LH(t i:Nat):tb t i=t.testBit i:=by
 have h1:Nat.land (Nat.shiftRight t i) 1=t/2^i%2:=by simp_all[Nat.shiftRight_eq_div_pow]
 grind[tb,aag]
theorem acW(k i:Nat):tb (bit k) i=decide (k=i):=by rw[LH];show(1<<<k).testBit i=_;grind[Nat.one_shiftLeft]
theorem nk(a b i:Nat):tb (Nat.lor a b) i=(tb a i||tb b i):=by simp_all[LH]
theorem j5{k i:Nat}(h:tb (bit k) i=false):k≠i:=by rw[acW]at h;simpa using h
inductive Kd where
 |pure
 |read
 |write
 |st (o:Nat) (old new:Ob)
 |rd (o:Nat) (old:Ob)
 |from(k:Nat)
 |chg (t:Nat)
 |yl (t:Nat)
def Kd.ID:Kd->Bool
 | .yl _=>true
 |_=>false
structure Rec where
 dst:Option Nat
 us:Loc
 r:AV
 ks:lXC
 kind:Kd
def vO(ks:lXC)(L:Loc):Loc:=match ks with
 |[]=>L
 |k::ks=>E5 (k::ks) L
def c7(L:Loc)(dst:Option Nat)(r:AV)(ks:lXC):Loc:=
 match dst with
 |some d=>(d,r)::vO ks L
 |none=>vO ks L
def upd(L:Loc)(rc:Rec):Loc:=c7 L rc.dst rc.r rc.ks
def eJ(ro:Option Nat):Fence:={fn:=λ_=>True,depth:=none,alive:=false,round:=ro}
def fencedR(P:Program)(ro:Option Nat)(m:Machine):m.fenced P (eJ ro):=by
 intro g _;refine⟨λh=> ?_,Or.inl trivial,λ_ _=>trivial,λ_ h=> ?_⟩
 ·cases h
 ·cases h
def roomR(ro:Option Nat)(n:Nat):(eJ ro).room n:=λ_ h=>by cases h
theorem vP(P:Program)(ro:Option Nat):Machine.fenced P (eJ ro)=Machine.fenced P Fence.wide:=by rfl
section
variable{ro:Option Nat}{n:Nat}{P:Program}
theorem E6{f:FuncId}{args:Array Value}{w:World}{R:Ending->World->Prop}:CallsIn (eJ ro) n P f args w R↔Calls P f args w R:=by rw[<-callsIn_wide (n:=n)];rfl
theorem aah{row:String}{args:Array Value}{w:World}{R:Value->World->Prop}:Rows P row args w R->RowsIn (eJ ro) n P row args w R:=by intro h c cs _;rw[vP];obtain⟨v,w',r,s⟩:=h c cs;exact⟨v,w',r,stepsIn_wide.2 s⟩
end
def Sj{ro ro':Option Nat}{n:Nat}{P:Program}{l:Nat}{f:FuncId}{tmps:Array Value}{assign body:Code}{w:World}{R:Ending->World->Prop}(h:RoundIn (eJ ro) n P l f tmps assign body w R):RoundIn (eJ ro') n P l f tmps assign body w R:=by unfold RoundIn at h⊢;rw[vP]at h⊢;exact⟨trivial,λc cs _=>h.2 c cs (roomR _ _)⟩
def Oper.still(o:Oper):Bool:=match o.op with
 | .defer _=>false
 |_=>true
theorem vQ{ro:Option Nat}{n:Nat}{P:Program}{o:Oper}{a:Act}{w:World}{K:Act->World->Prop}{Q:Exit->Act->World->Prop}(hd:ro=none\/Oper.still o=true)(h:o.wp P a w K Q):o.wpIn (eJ ro) n P a w K Q:=by
 refine⟨λ_ _=>trivial,?_⟩;have hs:Oper.semAt (eJ ro).round a.eval o=execOp a.eval o:=by
  rcases hd with rfl|hd
  ·rfl
  grind[Oper.semAt_eq,Oper.still]
 rw[hs];unfold Oper.wp at h;generalize(execOp a.eval o).run P w=r at h;cases r with
 |ok x w'=>
  cases x<;>simp only[Oper.upon]at h<;>simp only[Oper.uponIn]<;>first
   |exact h
   |exact⟨λe=>oao,E6.2 h⟩
   |exact⟨λe=>oao,aah h⟩
   |exact h.elim
 |halt x w'=>cases x<;>simp only[Oper.upon]at h<;>simp only[Oper.uponIn]<;>first|exact h|exact h.elim
section
variable(P:Program)(ops:Array Oper)(o:Oper)(rc:Rec)(ob ob':lXE)
def GStep:Prop:=
 ∀(m:Mem)(γ:Gam)(w:World)(a:Act)(K:Act->World->Prop)(Q:Exit->Act->World->Prop),Inv m γ ob w->b9 m γ a rc.us->
  (∀m' γ' w' x,Trans m γ w m' γ' w' ->Le m γ rc.ks m' γ' ->Inv m' γ' ob' w' ->Rep m' γ' rc.r x->K (a.put o.dst x) w')->
  if Region.wanted o (yielded ops a.tmps)then o.wp P a w K Q\/(rc.kind.ID=true/\ ∀ro,o.wpIn (eJ ro) 0 P a w K Q)else K (a.put o.dst undef) w
def jH:Prop:=
 match rc.kind with
 | .pure=>ob'=ob/\rc.ks=[]/\ ∀ob,GStep P ops o rc ob ob
 | .read=>ob'=ob/\rc.ks=[]/\GStep P ops o rc ob ob
 | .write=>GStep P ops o rc ob ob'
 | .st k old new=>ob[k]? =some old/\ob'=ob.set k new/\ ∀ob,ob[k]? =some old->GStep P ops o rc ob (ob.set k new)
 | .rd k old=>ob[k]? =some old/\ob'=ob/\rc.ks=[]/\ ∀ob,ob[k]? =some old->GStep P ops o rc ob ob
 | .from k=>(∀i,i<k->ob'[i]? =ob[i]?)/\GStep P ops o rc ob ob'
 | .chg t=>(∀i,tb t i=false->ob'[i]? =ob[i]?)/\GStep P ops o rc ob ob'
 | .yl t=>(∀i,tb t i=false->ob'[i]? =ob[i]?)/\GStep P ops o rc ob ob'
end
theorem jH.step{P:Program}{ops:Array Oper}{o:Oper}{rc:Rec}{ob ob':lXE}(h:jH P ops o rc ob ob'):GStep P ops o rc ob ob':=by grind[jH]
inductive Ev(P:Program)(n:Nat)(ops:Array Oper):List Oper->List Rec->Loc->lXE->Loc->lXE->Prop
 |nil (L:Loc) (ob:lXE):Ev P n ops [] [] L ob L ob
 |cons {o:Oper} {rest:List Oper} {rc:Rec} {recs:List Rec} {L L2:Loc} {ob ob' ob2:lXE} (hus:Sub rc.us L) (hdst:rc.dst=o.dst) (hn: ∀d,o.dst=some d->d<n)
   (hst:jH P ops o rc ob ob') (h:Ev P n ops rest recs (upd L rc) ob' L2 ob2):Ev P n ops (o::rest) (rc::recs) L ob L2 ob2
section
variable(a:Act)(d:Option Nat)(x:Value)
theorem nn:(a.put d x).tmps.size=a.tmps.size:=by cases d<;>simp[Act.put]
theorem j6:(a.put d x).defers=a.defers:=by cases d<;>simp[Act.put]
end
def j7{m m':Mem}{γ γ':Gam}{a:Act}{L:Loc}{rc:Rec}{d:Option Nat}{x:Value}(h:b9 m γ a L)(hle:Le m γ rc.ks m' γ')(hd:rc.dst=d)(hn: ∀e,d=some e->e<a.tmps.size)(hx:Rep m' γ' rc.r x):b9 m' γ' (a.put d x) (upd L rc):=by
 have hL:b9 m' γ' a (vO rc.ks L):=by
  cases hks:rc.ks with
  |nil=>rw[hks]at hle;exact h.le_nil hle
  |cons k ks=>rw[hks]at hle;exact h.le hle
 subst hd;unfold upd c7;cases hdd:rc.dst with
 |none=>simpa [Act.put]using hL
 |some d=>
  intro t av e;simp only at e;rw[dP]at e;have hlt:=hn d hdd;split at e
  ·simp_all[Act.put]
  ·rename_i hs;obtain⟨h1,h2⟩:=hL t av e;simp_all[Act.put]
section
variable{P:Program}{n:Nat}{ops:Array Oper}
theorem vR{ro:Option Nat}{kd:Kd}{o:Oper}{a:Act}{w:World}{K:Act->World->Prop}{Q:Exit->Act->World->Prop}(hd:ro=none\/Oper.still o=true)
  (h:if Region.wanted o (yielded ops a.tmps)then o.wp P a w K Q\/(kd.ID=true/\ ∀ro,o.wpIn (eJ ro) 0 P a w K Q)else K (a.put o.dst undef) w):
  if Region.wanted o (yielded ops a.tmps)then o.wpIn (eJ ro) 0 P a w K Q else(∀f,o.about P w a.eval=some f->(eJ ro).fn f)/\K (a.put o.dst undef) w:=by
 split
 ·grind[vQ]
 ·rename_i hw;rw[if_neg hw]at h;exact⟨λ_ _=>trivial,h⟩
theorem Sl{l:List Oper}{recs:List Rec}{L L2:Loc}{ob ob2:lXE}(hev:Ev P n ops l recs L ob L2 ob2):∀{ro:Option Nat}{m:Mem}{γ:Gam}{w:World}{a:Act}{Q:Exit->Act->World->Prop},(ro=none\/l.all Oper.still=true)->Inv m γ ob w->b9 m γ a L->a.tmps.size=n->(∀m' γ' w' a',Trans m γ w m' γ' w' ->Inv m' γ' ob2 w' ->b9 m' γ' a' L2->a'.tmps.size=n->a'.defers=a.defers->(∀o g,(∀rc∈recs,rc.ks.contains o=false)->γ o=some g->γ' o=some g)->Q .normal a' w')->wpListIn (eJ ro) 0 P ops Q l a w:=by
 induction hev with
 |nil L ob=>intro ro m γ w a Q _ hi hl hs hq;exact hq m γ w a (Trans.refl _ _ _) hi hl hs rfl (λ_ _ _ h=>h)
 |cons hus hdst hn hst h ih=>
  intro ro m γ w a Q hd hi hl hs hq;have hd1:ro=none\/Oper.still _=true:=hd.imp id λe=>by simp only[aha,afJ]at e;exact e.1
  have hd2:ro=none\/List.all _ Oper.still=true:=hd.imp id λe=>by simp only[aha,afJ]at e;exact e.2
  unfold wpListIn;refine vR hd1 (hst.step m γ w a _ Q hi (hl.sub hus) λm' γ' w' x ht hle hi' hx=> ?_);exact ih hd2 hi' (j7 hl hle hdst (λe he=>by rw[hs];exact hn e he) hx) (by rw[nn];exact hs)
   λm2 γ2 w2 a2 ht2 hi2 hl2 hs2 hd2 hk2=>hq m2 γ2 w2 a2 (ht.trans ht2) hi2 hl2 hs2 (hd2.trans<|j6 _ _ _)
    λo g hks hg=>hk2 o g (λrc hrc=>hks rc<|agf _ hrc) (hle.gam o g hg<|hks _ oaj)
end
def CN(d:Option Nat)(us:Loc):Bool:=match d with
 |none=>true
 |some d=>us.all λp=> !Nat.beq p.1 d
def IE(ks:lXC)(us:Loc):Bool:=match ks with
 |[]=>true
 |_::_=>us.all λp=>p.2.free ks
def Sm(ks:lXC)(r:AV):Bool:=match ks with
 |[]=>true
 |_::_=>r.free ks
def abT:Option Nat->Option Nat->Bool
 |some a,some b=> !Nat.beq a b
 |_,_=>true
def kindOk:Kd->Kd->Bool
 | .pure,_=>true
 |_,.pure=>true
 | .read,.read=>true
 | .read,.rd _ _=>true
 | .rd _ _,.read=>true
 | .rd _ _,.rd _ _=>true
 | .st o _ _,.st k _ _=> !Nat.beq o k
 | .st o _ _,.rd k _=> !Nat.beq o k
 | .rd o _,.st k _ _=> !Nat.beq o k
 | .from N,.rd k _=>Nat.blt k N
 | .rd k _,.from N=>Nat.blt k N
 | .chg t,.rd k _=> !tb t k
 | .rd k _,.chg t=> !tb t k
 |_,_=>false
def mi(a b:Rec):Bool:=kindOk a.kind b.kind&&CN a.dst b.us&&CN b.dst a.us&&abT a.dst b.dst&&IE b.ks a.us&&Sm a.ks b.r
theorem mj{L:Loc}{t:Nat}{av:AV}(h:lk L t=some av):(t,av)∈L:=by
 induction L with
 |nil=>simp[lk]at h
 |cons p L ih=>grind[dP]
theorem Bk{d:Nat}{us:Loc}(h:CN (some d) us=true){t:Nat}{av:AV}(hl:lk us t=some av):t≠d:=by simp only[CN,agc]at h;have:=h _ (mj hl);intro e;subst e;simp at this
def Qz{ks:lXC}{us:Loc}(h:IE ks us=true){t:Nat}{av:AV}(hl:lk us t=some av):av.free ks=true:=by
 cases ks with
 |nil=>exact AV.eX av
 |cons k ks=>simp only[IE,agc]at h;exact h _ (mj hl)
theorem Sn{ks:lXC}{r:AV}(h:Sm ks r=true):r.free ks=true:=by
 cases ks with
 |nil=>exact AV.eX r
 |cons k ks=>simpa [Sm]using h
theorem ml(L:Loc)(rc:Rec)(t:Nat):lk (upd L rc) t=if rc.dst=some t then some rc.r else(lk L t).map λav=>cond (av.free rc.ks) av .any:=by
 have hk:lk (vO rc.ks L) t=(lk L t).map λav=>cond (av.free rc.ks) av .any:=by
  cases hks:rc.ks with
  |nil=>simp_all[AV.eX,vO]
  |cons k ks=>simp only[vO];rw[vN]
 unfold upd c7;cases hd:rc.dst with
 |none=>simpa using hk
 |some d=>simp only;rw[dP,hk];simp
def So{L L':Loc}(h:Sub L L')(rc:Rec):Sub (upd L rc) (upd L' rc):=by
 intro t av e;rw[ml]at e⊢;split
 ·simp_all
 ·rename_i hd;rw[if_neg hd]at e;cases hl:lk L t with
  |none=>simp[hl]at e
  |some b=>
   rw[hl]at e;simp only[af6,afM]at e;subst e;rcases h t b hl with h1|⟨rfl,c,h1⟩
   ·exact .inl (by rw[h1];rfl)
   simp_all
section
variable{P:Program}{n:Nat}{ops:Array Oper}
theorem Ev.mono{l:List Oper}{recs:List Rec}{L L2:Loc}{ob ob2:lXE}(h:Ev P n ops l recs L ob L2 ob2): ∀{L':Loc},Sub L L' -> ∃L2',Sub L2 L2'/\Ev P n ops l recs L' ob L2' ob2:=by
 induction h with
 |nil L ob=>exact λ{L'} hs=>⟨L',hs,.nil _ _⟩
 | @cons o rest rc recs L L2 ob ob' ob2 hus hdst hn hst h ih=>intro L' hs;obtain⟨L2',k1,k2⟩:=ih (So hs rc);exact⟨L2',k1,.cons (hus.trans hs) hdst hn hst k2⟩
theorem QA{a b:Rec}{L:Loc}(hs:mi a b=true)(hb:Sub b.us (upd L a))(ha:Sub a.us L):Sub b.us L/\Sub a.us (upd L b)/\Sub (upd (upd L a) b) (upd (upd L b) a):=by
 simp only[mi,afJ]at hs;obtain⟨⟨⟨⟨⟨_,h1⟩,h2⟩,h3⟩,h4⟩,h5⟩:=hs;refine⟨λt av e=> ?_,λt av e=> ?_,λt av e=> ?_⟩
 ·have hne:a.dst≠some t:=by grind[Bk]
  rcases hb t av e with k|⟨rfl,c,k⟩
  ·rw[ml,if_neg hne]at k;cases hl:lk L t with
   |none=>simp[hl]at k
   |some c=>grind
  ·rw[ml,if_neg hne]at k;cases hl:lk L t with
   |none=>simp[hl]at k
   |some c=>exact .inr ⟨rfl,c,rfl⟩
 ·have hne:b.dst≠some t:=by grind[Bk]
  have hf:=Qz h4 e;rcases ha t av e with k|⟨rfl,c,k⟩
  ·grind[ml]
  grind[ml]
 ·rw[ml,ml]at e;rw[ml,ml];by_cases hbt:b.dst=some t
  ·rw[if_pos hbt]at e;have hat:a.dst≠some t:=by intro hat;rw[hat,hbt]at h3;simp[abT]at h3
   grind[Sn]
  ·rw[if_neg hbt]at e;rw[if_neg hbt];by_cases hat:a.dst=some t
   ·grind
   ·rw[if_neg hat]at e⊢;cases hl:lk L t with
    |none=>simp[hl]at e
    |some c=>grind
theorem Sp{o:Oper}{rc:Rec}{post:List Oper}{rpost:List Rec}: ∀{pre:List Oper}{rpre:List Rec}{L L2:Loc}{ob ob2:lXE},pre.length=rpre.length->Ev P n ops (pre++o::post) (rpre++rc::rpost) L ob L2 ob2->(∀r∈rpre,mi r rc=true)->∃ob1 L2',Sub rc.us L/\rc.dst=o.dst/\(∀d,o.dst=some d->d<n)/\jH P ops o rc ob ob1/\Sub L2 L2'/\Ev P n ops (pre++post) (rpre++rpost) (upd L rc) ob1 L2' ob2
 |[],[],L,L2,ob,ob2,_,h,_=>by
  cases h with
  |cons hus hdst hn hst h=>exact⟨_,L2,hus,hdst,hn,hst,Sub.refl _,h⟩
 |x::pre,q::rpre,L,L2,ob,ob2,hl,h,hsw=>by
  rw[agR,agR]at h;cases h with
  | @cons _ _ _ _ _ _ _ obx _ hus hdst hn hst h=>
   obtain⟨ob1,L2',k1,k2,k3,k4,k5,k6⟩:=Sp oaZ h (λr hr=>hsw r<|agf _ hr);have hok:=hsw q oaj;obtain⟨s1,s2,s3⟩:=QA hok k1 hus;obtain⟨L2'',j1,j2⟩:=k6.mono s3;have hkind:kindOk q.kind rc.kind=true:=by have hk:=hok;simp only[mi,afJ]at hk;exact hk.1.1.1.1.1
   have key: ∃ob',jH P ops o rc ob ob'/\jH P ops x q ob' ob1:=by
    unfold jH at hst k4⊢;cases hq:q.kind<;>cases hr:rc.kind<;>rw[hq,hr]at hkind<;>rw[hq]at hst<;>rw[hr]at k4<;>simp only[kindOk,af3,reduceCtorEq]at hkind<;>simp only at hst k4⊢
    case pure.pure=>obtain⟨rfl,a1,a2⟩:=hst;obtain⟨rfl,b1,b2⟩:=k4;exact⟨_,⟨rfl,b1,b2⟩,rfl,a1,a2⟩
    case pure.read=>obtain⟨rfl,a1,a2⟩:=hst;obtain⟨rfl,b1,b2⟩:=k4;exact⟨_,⟨rfl,b1,b2⟩,rfl,a1,a2⟩
    case pure.write=>obtain⟨rfl,a1,a2⟩:=hst;exact⟨_,k4,rfl,a1,a2⟩
    case pure.st=>obtain⟨rfl,a1,a2⟩:=hst;obtain⟨b1,rfl,b2⟩:=k4;exact⟨_,⟨b1,rfl,b2⟩,rfl,a1,a2⟩
    case pure.rd=>obtain⟨rfl,a1,a2⟩:=hst;obtain⟨b1,rfl,b2,b3⟩:=k4;exact⟨_,⟨b1,rfl,b2,b3⟩,rfl,a1,a2⟩
    case read.pure=>obtain⟨rfl,a1,a2⟩:=hst;obtain⟨rfl,b1,b2⟩:=k4;exact⟨_,⟨rfl,b1,b2⟩,rfl,a1,a2⟩
    case read.read=>obtain⟨rfl,a1,a2⟩:=hst;obtain⟨rfl,b1,b2⟩:=k4;exact⟨_,⟨rfl,b1,b2⟩,rfl,a1,a2⟩
    case read.rd=>obtain⟨rfl,a1,a2⟩:=hst;obtain⟨b1,rfl,b2,b3⟩:=k4;exact⟨_,⟨b1,rfl,b2,b3⟩,rfl,a1,a2⟩
    case write.pure=>obtain⟨rfl,b1,b2⟩:=k4;exact⟨_,⟨rfl,b1,b2⟩,hst⟩
    case pure.from=>obtain⟨rfl,a1,a2⟩:=hst;exact⟨_,k4,rfl,a1,a2⟩
    case from.pure=>obtain⟨rfl,b1,b2⟩:=k4;exact⟨_,⟨rfl,b1,b2⟩,hst⟩
    case pure.chg=>obtain⟨rfl,a1,a2⟩:=hst;exact⟨_,k4,rfl,a1,a2⟩
    case chg.pure=>obtain⟨rfl,b1,b2⟩:=k4;exact⟨_,⟨rfl,b1,b2⟩,hst⟩
    case chg.rd t k old=>
     have hlt:tb t k=false:=by simpa using hkind
     obtain⟨a1,a3⟩:=hst;obtain⟨b1,rfl,b2,b3⟩:=k4;exact⟨_,⟨(a1 k hlt).symm.trans b1,rfl,b2,b3⟩,a1,a3⟩
    case rd.chg k old t=>
     have hlt:tb t k=false:=by simpa using hkind
     obtain⟨a1,rfl,a2,a3⟩:=hst;obtain⟨b1,b3⟩:=k4;exact⟨_,⟨b1,b3⟩,(b1 k hlt).trans a1,rfl,a2,a3⟩
    case pure.yl=>obtain⟨rfl,a1,a2⟩:=hst;exact⟨_,k4,rfl,a1,a2⟩
    case yl.pure=>obtain⟨rfl,b1,b2⟩:=k4;exact⟨_,⟨rfl,b1,b2⟩,hst⟩
    case from.rd N k old=>
     have hlt:k<N:=by simp[Nat.blt]at hkind;omega
     obtain⟨a1,a3⟩:=hst;obtain⟨b1,rfl,b2,b3⟩:=k4;exact⟨_,⟨(a1 k hlt).symm.trans b1,rfl,b2,b3⟩,a1,a3⟩
    case rd.from k old N=>
     have hlt:k<N:=by simp[Nat.blt]at hkind;omega
     obtain⟨a1,rfl,a2,a3⟩:=hst;obtain⟨b1,b3⟩:=k4;exact⟨_,⟨b1,b3⟩,(b1 k hlt).trans a1,rfl,a2,a3⟩
    case st.pure=>obtain⟨rfl,b1,b2⟩:=k4;exact⟨_,⟨rfl,b1,b2⟩,hst⟩
    case rd.pure=>obtain⟨rfl,b1,b2⟩:=k4;exact⟨_,⟨rfl,b1,b2⟩,hst⟩
    case rd.read=>obtain⟨a1,rfl,a2,a3⟩:=hst;obtain⟨rfl,b1,b2⟩:=k4;exact⟨_,⟨rfl,b1,b2⟩,a1,rfl,a2,a3⟩
    case rd.rd=>obtain⟨a1,rfl,a2,a3⟩:=hst;obtain⟨b1,rfl,b2,b3⟩:=k4;exact⟨_,⟨b1,rfl,b2,b3⟩,a1,rfl,a2,a3⟩
    case st.st ka oa na kb ob' nb=>
     have hne:ka≠kb:=λe=>by subst e;simp at hkind
     obtain⟨a1,rfl,a3⟩:=hst;obtain⟨b1,rfl,b3⟩:=k4;rw[af5 hne]at b1;exact⟨_,⟨b1,rfl,b3⟩,by rw[af5 (λe=>hne e.symm)];exact a1,List.set_comm _ _ hne,a3⟩
    case st.rd ka oa na kb ob'=>
     have hne:ka≠kb:=λe=>by subst e;simp at hkind
     obtain⟨a1,rfl,a3⟩:=hst;obtain⟨b1,rfl,b2,b3⟩:=k4;rw[af5 hne]at b1;exact⟨_,⟨b1,rfl,b2,b3⟩,a1,rfl,a3⟩
    case rd.st ka oa kb ob' nb=>
     have hne:ka≠kb:=λe=>by subst e;simp at hkind
     obtain⟨a1,rfl,a2,a3⟩:=hst;obtain⟨b1,rfl,b3⟩:=k4;exact⟨_,⟨b1,rfl,b3⟩,by rw[af5 (λe=>hne e.symm)];exact a1,rfl,a2,a3⟩
   obtain⟨ob',g1,g2⟩:=key;exact⟨ob',L2'',s1,k2,k3,g1,k5.trans j1,.cons s2 hdst hn g2 j2⟩
end
def lI(acc:lXC):List Edge->Nat
 |[]=>0
 |e::es=>cond (Region.binds .any e) ((2^e.on|||acc.getD e.on 0)|||lI acc es) (lI acc es)
def gL:List Oper->lXC->lXC
 |[],acc=>acc
 |o::l,acc=>gL l (acc++ [lI acc o.after.toList])
def lJ:Nat->List Oper->Bool
 |_,[]=>true
 |k,o::l=>(o.after.toList.all λe=> !Region.binds .any e||Nat.blt e.on k)&&lJ (k+1) l
def qp(bits:lXC)(j:Nat)(rj:Rec):Nat->List Rec->Bool
 |_,[]=>true
 |i,ri::rs=>((bits.getD j 0).testBit i||mi ri rj)&&qp bits j rj (i+1) rs
def va(bits:lXC):List Rec->Nat->List Rec->Bool
 |_,_,[]=>true
 |before,j,rj::rs=>qp bits j rj 0 before&&va bits (before++ [rj]) (j+1) rs
def CO(l:List Oper)(recs:List Rec):Bool:=lJ 0 l&&va (gL l []) [] 0 recs
def lr{acc:lXC}{listed:Array Bool}{p:Nat}: ∀{es:List Edge},(lI acc es).testBit p=true->(∀e∈es,Region.binds .any e=true->listed.getD e.on false=true/\((acc.getD e.on 0).testBit p=true->listed.getD p false=true))->listed.getD p false=true
 |[],h,_=>by simp[lI]at h
 |e::es,h,hl=>by
  simp only[lI]at h;cases hb:Region.binds .any e with
  |false=>rw[hb]at h;exact lr oaM (λf hf=>hl f<|agf _ hf)
  |true=>
   rw[hb]at h;simp only[af2,Nat.testBit_or,ag3]at h;obtain⟨h1,h2⟩:=hl e oaj hb;rcases h with(h|h)|h
   ·grind
   ·exact h2 h
   ·exact lr h (λf hf=>hl f<|agf _ hf)
def pk{listed:Array Bool}(ops:List Oper)(closed: ∀(i:Nat)(o:Oper),ops[i]? =some o->listed.getD i false=true-> ∀e∈o.after.toList,Region.binds .any e=true->listed.getD e.on false=true):∀(l:List Oper)(acc:lXC),(∀j,l[j]? =ops[acc.length+j]?)->(∀q o,q<acc.length->ops[q]? =some o->(∀e∈o.after.toList,Region.binds .any e=true->listed.getD e.on false=true)-> ∀p,(acc.getD q 0).testBit p=true->listed.getD p false=true)->(∀q o,q<(gL l acc).length->ops[q]? =some o->(∀e∈o.after.toList,Region.binds .any e=true->listed.getD e.on false=true)-> ∀p,((gL l acc).getD q 0).testBit p=true->listed.getD p false=true)
 |[],acc,_,h=>h
 |o::l,acc,hl,h=>by
  refine pk ops closed l _ (λj=> ?_) ?_
  ·have:=hl (j+1);simp only[List.getElem?_cons_succ]at this;rw[this];congr 1;simp only[afQ,agb,agt];omega
  ·intro q o' hq ho' hall p hp;by_cases hqa:q<acc.length
   ·refine h q o' hqa ho' hall p ?_;rw[agz,afZ hqa]at hp;rw[agz];exact hp
   ·have hqe:q=acc.length:=by simp at hq;omega
    subst hqe;have ho:o'=o:=by have:=hl 0;simp only[Nat.add_zero,agP]at this;rw[ho']at this;cases this;rfl
    subst ho;rw[agz,agl (afP _)]at hp;simp only[Nat.sub_self,agP,Option.getD_some]at hp;refine lr hp λe he hb=>⟨hall e he hb,λhbit=> ?_⟩;by_cases hea:e.on<acc.length
    ·cases hoe:ops[e.on]? with
     |none=>exfalso;have h1:ops.length<=e.on:=List.getElem?_eq_none_iff.1 hoe;have h2:acc.length<ops.length:=(afR.1 ho').1;omega
     |some oe=>exact h e.on oe hea hoe (λf hf hbf=>closed e.on oe hoe (hall e he hb) f hf hbf) p hbit
    ·rw[agz,List.getElem?_eq_none_iff.2 oaa]at hbit;simp at hbit
def pn{bits:lXC}{j:Nat}{rj:Rec}: ∀{i:Nat}{rs:List Rec},qp bits j rj i rs=true-> ∀p r,rs[p]? =some r->(bits.getD j 0).testBit (i+p)=true\/mi r rj=true
 |_,[],_,p,r,h=>by simp at h
 |i,ri::rs,h,p,r,hp=>by
  simp only[qp,afJ,ag3]at h;cases p with
  |zero=>simp at hp;subst hp;simpa using h.1
  |succ p=>have:=pn h.2 p r (by simpa using hp);grind
def qq{bits:lXC}: ∀{before:List Rec}{j:Nat}{rs:List Rec},before.length=j->va bits before j rs=true->∀q r,rs[q]? =some r-> ∀p s,p<j+q->(before++rs)[p]? =some s->(bits.getD (j+q) 0).testBit p=true\/mi s r=true
 |_,_,[],_,_,q,r,h=>by simp at h
 |before,j,rj::rs,hlen,h,q,r,hq=>by
  simp only[va,afJ]at h;intro p s hp hs;cases q with
  |zero=>simp at hq;subst hq;rw[afZ oaa]at hs;simpa using pn h.1 p s hs
  |succ q=>have:=qq (before:=before++ [rj]) (j:=j+1) (by simp[hlen]) h.2 q r (by simpa using hq) p s oaa (by simpa using hs);grind
def np: ∀{l:List Oper}{k:Nat},lJ k l=true-> ∀j o,l[j]? =some o-> ∀e∈o.after.toList,Region.binds .any e=true->e.on<k+j
 |[],_,_,j,o,h=>by simp at h
 |x::l,k,h,j,o,hj=>by
  simp only[lJ,afJ,agc,ag3,af3]at h;cases j with
  |zero=>
   simp at hj;subst hj;intro e he hb;rcases h.1 e he with h1|h1
   ·rw[h1]at hb;cases hb
   ·simp[Nat.blt]at h1;omega
  |succ j=>intro e he hb;have:=np h.2 j o (by simpa using hj) e he hb;omega
section
variable{P:Program}{n:Nat}{ops:Array Oper}
def pM(k:Nat)(f:Nat->Bool):((range k).filter f).Nodup:=List.Pairwise.filter f List.nodup_range
theorem QB{ro:Option Nat}(hd:ro=none\/ops.toList.all Oper.still=true){Q:Exit->Act->World->Prop}(bits:lXC)(hback:lJ 0 ops.toList=true)(hbits:bits=gL ops.toList [])(rec:Nat->Rec)(hpairs: ∀p q,p<q->q<ops.size->(bits.getD q 0).testBit p=true\/mi (rec p) (rec q)=true):∀(fuel:Nat)(listed:Array Bool)(rem:lXC)(L L2:Loc)(ob ob2:lXE),rem.length=fuel->listed.size=ops.size->rem=(range ops.size).filter (λi=> !listed.getD i true)->(∀(i:Nat)(o:Oper),ops.toList[i]? =some o->listed.getD i false=true-> ∀e∈o.after.toList,Region.binds .any e=true->listed.getD e.on false=true)->Ev P n ops (rem.map λi=>ops.getD i default) (rem.map rec) L ob L2 ob2->∀(m:Mem)(γ:Gam)(w:World)(a:Act),Inv m γ ob w->b9 m γ a L->a.tmps.size=n->(∀m' γ' w' a',Trans m γ w m' γ' w' ->Inv m' γ' ob2 w' ->b9 m' γ' a' L2->a'.tmps.size=n->a'.defers=a.defers->(∀o g,(∀i∈rem,(rec i).ks.contains o=false)->γ o=some g->γ' o=some g)->Q .normal a' w')->wpAnyIn (eJ ro) 0 P .any ops Q fuel listed a w:=by
 intro fuel;induction fuel with
 |zero=>
  intro listed rem L L2 ob ob2 hlen hsz hrem hcl hev m γ w a hi hl hs hq;have:rem=[]:=agp hlen;subst this;simp only[agM]at hev;cases hev;refine⟨?_,(by grind[Trans.refl])⟩;have h0: ∀i,i<ops.size->listed.getD i true=true:=by simp_all
  grind[Region.ready]
 |succ fuel ih=>
  intro listed rem L L2 ob ob2 hlen hsz hrem hcl hev m γ w a hi hl hs hq;have hmem: ∀i,i∈rem↔i<ops.size/\listed.getD i true=false:=by intro i;rw[hrem];simp
  have hnd:rem.Nodup:=by rw[hrem];exact pM _ _
  have hsorted:rem.Pairwise (·< ·):=by grind[List.pairwise_lt_range]
  have hgetD: ∀i,i<ops.size->listed.getD i true=listed.getD i false:=by grind
  have hedge: ∀i o,ops[i]? =some o-> ∀e∈o.after.toList,Region.binds .any e=true->e.on<i:=by intro i o ho e he hb;have:=np hback i o (by simpa using ho) e he hb;omega
  refine⟨λhnone=> ?_,λi hir=> ?_⟩
  ·exfalso
   match hr:rem with
   |[]=>simp at hlen
   |i::rest=>
    have hi0:=(hmem i).1 oaj;obtain⟨o,ho⟩: ∃o,ops[i]? =some o:=⟨ops[i]'hi0.1,agV hi0.1⟩;have hin:i∈Region.ready .any ops listed:=by simp only[Region.ready,List.mem_filter,List.mem_range,afJ,af3];refine⟨hi0.1,hi0.2,?_⟩;simp only[ho,af6,Option.getD_some,Array.all_eq_true',ag3,af3];grind[List.pairwise_cons]
    rw[hnone]at hin;cases hin
  ·simp only[Region.ready,List.mem_filter,List.mem_range,afJ,af3]at hir;obtain⟨hlt,hunl,hready⟩:=hir;have hin:i∈rem:=(hmem i).2 ⟨hlt,hunl⟩;obtain⟨pre,post,hsplit⟩:=List.append_of_mem hin;obtain⟨o,ho⟩: ∃o,ops[i]? =some o:=⟨ops[i]'hlt,agV hlt⟩;have hod:ops.getD i default=o:=by simp[agk,ho]
   have hall: ∀e∈o.after.toList,Region.binds .any e=true->listed.getD e.on false=true:=by simp only[ho,af6,Option.getD_some,Array.all_eq_true',ag3,af3]at hready;grind
   have hpre: ∀p∈pre,p<i/\listed.getD p true=false:=by grind
   have hswap: ∀r∈pre.map rec,mi r (rec i)=true:=by
    intro r hr;obtain⟨p,hp,rfl⟩:=agm.1 hr;obtain⟨hpi,hpu⟩:=hpre p hp;rcases hpairs p i hpi hlt with h1|h1
    ·exfalso;subst hbits;have hlenb:i<(gL ops.toList []).length:=by
      have: ∀(l:List Oper)(acc:lXC),(gL l acc).length=acc.length+l.length:=by
       intro l;induction l with
       |nil=>intro acc;simp[gL]
       |cons o l ihl=>intro acc;simp only[gL];rw[ihl];simp;omega
      rw[this];simpa using hlt
     have:=pk (listed:=listed) ops.toList hcl ops.toList [] (λj=>by simp) (λq o hq=>by simp at hq) i o hlenb (by simpa using ho) hall p h1;grind
    ·exact h1
   rw[hsplit]at hev;simp only[ahe,af9,hod]at hev;obtain⟨ob1,L2',k1,k2,k3,k4,k5,k6⟩:=Sp oaj hev hswap;unfold wpOpIn;simp only[ho];have hd1:ro=none\/Oper.still o=true:=oaI;refine vR hd1 (k4.step m γ w a _ Q hi (hl.sub k1) λm' γ' w' x ht hle hi' hx=> ?_);have hrem':pre++post=(range ops.size).filter (λj=> !(listed.setIfInBounds i true).getD j true):=by
    have e1:(range ops.size).filter (λj=> !(listed.setIfInBounds i true).getD j true)=((range ops.size).filter<|λj=> !listed.getD j true).filter (λj=>j !=i):=by
     rw[List.filter_filter];refine List.filter_congr λj hj=> ?_;have hjl:j<ops.size:=by simpa using hj
     by_cases hji:j=i
     ·subst hji;simp
     ·rw[agk,Array.getElem?_setIfInBounds_ne (λe=>hji e.symm),<-agk];simp[hji]
    rw[e1,<-hrem,hsplit];rw[hsplit]at hnd;have hnd':=List.nodup_append.1 hnd;have hp1: ∀j∈pre,(j !=i)=true:=oaI;have hp2: ∀j∈post,(j !=i)=true:=oaI;grind[List.filter_eq_self]
   refine ih (listed.setIfInBounds i true) (pre++post) (upd L<|rec i) L2' ob1 ob2 ?_ (by simpa using hsz) hrem' ?_ ?_ m' γ' w' _ hi' (j7 hl hle k2 (λe he=>by rw[hs];exact k3 e he) hx) (by rw[nn];exact hs)
    λm2 γ2 w2 a2 ht2 hi2 hl2 hs2 hd2 hk2=>hq m2 γ2 w2 a2 (ht.trans ht2) hi2 (hl2.sub k5) hs2 (hd2.trans<|j6 _ _ _)
     λo g hks hg=>hk2 o g oaI (hle.gam o g hg<|hks i<|by rw[hsplit];simp)
   ·grind
   ·intro j oj hoj hlj e he hb;have hjl:j<ops.size:=by grind
    have hset: ∀q,q<ops.size->listed.getD q false=true->(listed.setIfInBounds i true).getD q false=true:=by
     intro q hq hlq;by_cases hqi:q=i
     ·grind
     ·rw[agk,Array.getElem?_setIfInBounds_ne (λe=>hqi e.symm),<-agk];exact hlq
    by_cases hji:j=i
    ·grind
    ·rw[agk,Array.getElem?_setIfInBounds_ne (λe=>hji e.symm),<-agk]at hlj;grind
   ·simpa using k6
theorem IF{id:Nat}{l:List Oper}{recs:List Rec}{L L2:Loc}{ob ob2:lXE}{Q:Exit->Act->World->Prop}(hm:P.follows .mixedOrders=true){ro:Option Nat}(hd:ro=none\/l.all Oper.still=true)(hev:Ev P n l.toArray l recs L ob L2 ob2)(hok:CO l recs=true){m:Mem}{γ:Gam}{w:World}{a:Act}(hi:Inv m γ ob w)(hl:b9 m γ a L)(hs:a.tmps.size=n)(hq: ∀m' γ' w' a',Trans m γ w m' γ' w' ->Inv m' γ' ob2 w' ->b9 m' γ' a' L2->a'.tmps.size=n->a'.defers=a.defers->(∀o g,(∀rc∈recs,rc.ks.contains o=false)->γ o=some g->γ' o=some g)->Q .normal a' w'):(Code.region id l.toArray true).wpIn (eJ ro) 0 P Q a w:=by
 have hlen: ∀{l:List Oper}{recs:List Rec}{L L2:Loc}{ob ob2:lXE}{ops:Array Oper},Ev P n ops l recs L ob L2 ob2->recs.length=l.length:=by
  intro l recs L L2 ob ob2 ops h;induction h with
  |nil=>rfl
  |cons _ _ _ _ _ ih=>simp[ih]
 have hln:=hlen hev;simp only[CO,afJ]at hok;refine wpIn_region_any hm ?_;have hiw:Inv m γ ob {w with drawn:=w.drawn+1}:=by refine⟨hi.mem,λo X hX=> ?_,hi.sep,hi.dom,hi.len⟩;have:=hi.obj o X hX;cases X<;>exact this
 have hmap1:(range l.length).map (λi=>l.toArray.getD i default)=l:=by
  apply agd;intro i;rw[afY];by_cases hi':i<l.length
  ·simp[hi',agk]
  ·simp[hi']
 have hmap2:(range l.length).map (λi=>recs.getD i ⟨none,[],.any,[],.pure⟩)=recs:=by
  apply agd;intro i;rw[afY];by_cases hi':i<l.length
  ·simp[hi',agz,show i<recs.length by omega]
  ·simp[hi',show recs.length<=i by omega]
 have hfil:(range l.toArray.size).filter (λi=> !(Array.replicate l.toArray.size false).getD i true)=range l.length:=by
  simp only[ag9];refine List.filter_eq_self.2 λi hi'=> ?_;have:i<l.length:=by simpa using hi'
  simp[agk,this]
 refine QB (by simpa using hd) (gL l []) (by simpa using hok.1) oaj (λi=>recs.getD i ⟨none,[],.any,[],.pure⟩) ?_ l.toArray.size _ (range l.length) L L2 ob ob2 oaj oaj hfil.symm ?_ ?_ m γ _ a hiw hl hs
  λm' γ' w' a' ht hi2 hl2 hs2 hd2 hk2=>hq m' γ' w' a' ((⟨λ_ _ h=>h,λ_ _ h=> .inl h,λ_ _ h=>h,rfl,rfl,rfl,afP _,λ_ _ _=>rfl⟩:Trans m γ w m γ {w with drawn:=w.drawn+1}).trans ht) hi2 hl2 hs2 hd2 λo g hks hg=>hk2 o g (λi hi3=>hks _ (by
   have:i<l.length:=by simpa using hi3
   rw[agz,af0 (show i<recs.length by omega)];simp)) hg
 ·intro p q hpq hq';have hq2:q<recs.length:=by simpa [hln]using hq'
  have:=qq (before:=[]) (j:=0) rfl hok.2 q (recs[q]) (af0 hq2) p (recs[p]'oaa) oaa (by simp[show p<recs.length by omega]);simpa [agz,hq2,show p<recs.length by omega]using this
 ·intro i o ho hl';simp only[ag9,agk]at hl';exfalso;by_cases h:i<l.length
  ·simp[h]at hl'
  ·simp[h]at hl'
 ·rw[hmap1,hmap2];exact hev
end
inductive AX where
 |normal
 |ret
 |exit (id:Nat)
 |goto (l:Nat)
 |panic (av:AV)
def E7(m:Mem)(γ:Gam):Exit->AX->Prop
 | .normal,.normal=>True
 | .ret,.ret=>True
 | .exit i,.exit j=>i=j
 | .goto i,.goto j=>i=j
 | .panic chain,.panic av=> ∃v,chain=[{v,recovered:=false}]/\Rep m γ av v
 |_,_=>False
def kept(K:Nat)(kk:lXC)(o:Nat):Prop:=o<K/\kk.contains o=false
abbrev ep:=AX->Loc->lXE->Prop
def _root_.Go.Code.rf:Code->Bool
 | .rangeFunc _ _ _ _=>true
 | .seq a b=>a.rf||b.rf
 | .cond _ a b=>a.rf||b.rf
 | .block _ c=>c.rf
 | .loop c=>c.rf
 | .scope c=>c.rf
 |_=>false
def mark(D:Nat):Deferred:={target:= .collected D,args:= #[]}
def Marks(rf:Bool)(ds0:List Deferred)(w0:World)(ds:List Deferred)(γ:Gam)(w:World):Prop:=∃Ds:lXC,ds=Ds.map mark++ds0/\(rf=true\/Ds=[])/\Ds.Nodup/\ ∀D∈Ds,w0.heap.size<=D/\D<w.heap.size/\w.heap[D]? =some (.deferred<|some [])/\ ¬InG γ D
theorem Marks.none(rf:Bool)(ds:List Deferred)(w0:World)(γ:Gam)(w:World):Marks rf ds w0 ds γ w:=⟨[],rfl,.inr rfl,agW,by simp⟩
def Marks.of_eq{rf:Bool}{ds ds':List Deferred}{w0:World}{γ:Gam}{w:World}(h:ds'=ds):Marks rf ds w0 ds' γ w:=h▸Marks.none rf ds w0 γ w
def Marks.up{rf rf':Bool}{ds0 ds:List Deferred}{w0:World}{γ:Gam}{w:World}(h:Marks rf ds0 w0 ds γ w)(hr:rf=true->rf'=true):Marks rf' ds0 w0 ds γ w:=by obtain⟨Ds,h1,h2,h3⟩:=h;exact⟨Ds,h1,h2.imp hr id,h3⟩
section
variable{rf:Bool}{ds0 ds:List Deferred}
theorem Marks.gam{w0:World}{γ γ':Gam}{w:World}(h:Marks rf ds0 w0 ds γ w)(hg: ∀k,InG γ' k->InG γ k):Marks rf ds0 w0 ds γ' w:=by obtain⟨Ds,h1,h2,h3,h4⟩:=h;exact⟨Ds,h1,h2,h3,oaI⟩
theorem Marks.base{w0 w1:World}{γ:Gam}{w:World}(h:Marks rf ds0 w1 ds γ w)(hs:w0.heap.size<=w1.heap.size):Marks rf ds0 w0 ds γ w:=by obtain⟨Ds,h1,h2,h3,h4⟩:=h;exact⟨Ds,h1,h2,h3,oaI⟩
theorem Marks.on{w0 w1 w2:World}{m1 m2:Mem}{γ1 γ2:Gam}(h:Marks rf ds0 w0 ds γ1 w1)(ht:Trans m1 γ1 w1 m2 γ2 w2):Marks rf ds0 w0 ds γ2 w2:=by obtain⟨Ds,h1,h2,h3,h4⟩:=h;refine⟨Ds,h1,h2,h3,λD hD=> ?_⟩;obtain⟨k1,k2,k3,k4⟩:=h4 D hD;exact⟨k1,agL k2 ht.size,(ht.blk D k2 k4).trans k3,λhi=>k4 (ht.gam D k2 hi)⟩
end
theorem Marks.app{rf:Bool}{ds0 ds1 ds2:List Deferred}{w0 w1 w2:World}{m1 m2:Mem}{γ1 γ2:Gam}(h:Marks rf ds0 w0 ds1 γ1 w1)(hs:w0.heap.size<=w1.heap.size)(ht:Trans m1 γ1 w1 m2 γ2 w2)(k:Marks rf ds1 w1 ds2 γ2 w2):Marks rf ds0 w0 ds2 γ2 w2:=by
 obtain⟨Ds,h1,h2,h3,h4⟩:=h.on ht;obtain⟨Es,k1,k2,k3,k4⟩:=k;obtain⟨Ds',h1',_,_,h4'⟩:=h;have hD:Ds'=Ds:=by
  have:=h1'.symm.trans h1;have:=List.append_cancel_right this;have inj: ∀(a b:lXC),a.map mark=b.map mark->a=b:=by
   intro a;induction a with
   |nil=>simp_all
   |cons x a ih=>intro b hb;cases b with
    |nil=>simp at hb
    |cons y b=>grind[mark]
  exact inj _ _ this
 subst hD;refine⟨Es++Ds',by simp_all,?_,?_,λD hD=> ?_⟩
 ·grind
 ·grind
 grind
def kK(rf:Bool)(ds0:List Deferred)(K:Nat)(kk:lXC)(n:Nat)(Q:ep)(m:Mem)(γ:Gam)(w:World):Exit->Act->World->Prop:=λe a' w'=>∃m' γ' L' ob' x,Q x L' ob'/\E7 m' γ' e x/\Trans m γ w m' γ' w'/\Inv m' γ' ob' w'/\b9 m' γ' a' L'/\a'.tmps.size=n/\Marks rf ds0 w a'.defers γ' w'/\(∀o g,kept K kk o->γ o=some g->γ' o=some g)
def awp(df:Option Nat)(P:Program)(n K:Nat)(kk:lXC)(c:Code)(Q:ep)(L:Loc)(ob:lXE):Prop:=∀m γ w a,Inv m γ ob w->b9 m γ a L->a.tmps.size=n->True->c.wpIn (eJ df) 0 P (kK c.rf a.defers K kk n Q m γ w) a w
def E8(N:Loc->lXE->Prop)(Q:ep):ep
 | .normal,L,ob=>N L ob
 |x,L,ob=>Q x L ob
def j8(id:Nat)(Q:ep):ep
 | .exit j,L,ob=>if j=id then Q .normal L ob else Q (.exit j) L ob
 |x,L,ob=>Q x L ob
section
variable{df:Option Nat}{P:Program}{n K:Nat}{kk:lXC}{Q:ep}{L:Loc}{ob:lXE}
theorem kK.trans{rf rf1 rf2:Bool}{ds0 ds1:List Deferred}{m m1:Mem}{γ γ1:Gam}{w w1:World}{e:Exit}{a:Act}{w2:World}(ht:Trans m γ w m1 γ1 w1)(hk: ∀o g,kept K kk o->γ o=some g->γ1 o=some g)(hm:Marks rf1 ds0 w ds1 γ1 w1)(r1:rf1=true->rf=true)(r2:rf2=true->rf=true)(h:kK rf2 ds1 K kk n Q m1 γ1 w1 e a w2):kK rf ds0 K kk n Q m γ w e a w2:=by obtain⟨m',γ',L',ob',x,h1,h2,h3,h4,h5,h6,h7,h8⟩:=h;exact⟨m',γ',L',ob',x,h1,h2,ht.trans h3,h4,h5,h6,(hm.up r1).app ht.size h3 (h7.up r2),λo g ho hg=>h8 o g ho (hk o g ho hg)⟩
theorem kK.rf{rf rf':Bool}{ds0:List Deferred}{m:Mem}{γ:Gam}{w:World}{e:Exit}{a:Act}{w':World}(hr:rf=true->rf'=true)(h:kK rf ds0 K kk n Q m γ w e a w'):kK rf' ds0 K kk n Q m γ w e a w':=by obtain⟨m',γ',L',ob',x,h1,h2,h3,h4,h5,h6,h7,h8⟩:=h;exact⟨m',γ',L',ob',x,h1,h2,h3,h4,h5,h6,h7.up hr,h8⟩
theorem vS{c:Code}{Q':ep}(h:awp df P n K kk c Q L ob)(hq: ∀x L ob,Q x L ob->Q' x L ob):awp df P n K kk c Q' L ob:=by intro m γ w a hi hl hs hd;refine wpIn_mono (h m γ w a hi hl hs hd) λe a' w'⟨m',γ',L',ob',x,h1,h2⟩=>⟨m',γ',L',ob',x,hq _ _ _ h1,h2⟩
def vT{c:Code}{L':Loc}(hs:Sub L' L)(h:awp df P n K kk c Q L' ob):awp df P n K kk c Q L ob:=λm γ w a hi hl=>h m γ w a hi (hl.sub hs)
def nq(x:AX)(e:Exit)(hx: ∀m γ,E7 m γ e x){m:Mem}{γ:Gam}{w:World}{a:Act}(hi:Inv m γ ob w)(hl:b9 m γ a L)(hs:a.tmps.size=n)(hq:Q x L ob){rf:Bool}:kK rf a.defers K kk n Q m γ w e a w:=⟨m,γ,L,ob,x,hq,hx m γ,Trans.refl _ _ _,hi,hl,hs,Marks.none _ _ _ _ _,λ_ _ _ h=>h⟩
theorem E9(h:Q .normal L ob):awp df P n K kk .skip Q L ob:=λ_ _ _ _ hi hl hs _=>wpIn_skip (nq .normal .normal (λ_ _=>trivial) hi hl hs h)
theorem QC{l:Nat}(h:Q .normal L ob):awp df P n K kk (.label l) Q L ob:=λ_ _ _ _ hi hl hs _=>wpIn_label (nq .normal .normal (λ_ _=>trivial) hi hl hs h)
theorem LI(h:Q .ret L ob):awp df P n K kk .ret Q L ob:=λ_ _ _ _ hi hl hs _=>wpIn_ret (nq .ret .ret (λ_ _=>trivial) hi hl hs h)
theorem Sq{id:Nat}(h:Q (.exit id) L ob):awp df P n K kk (.exit id) Q L ob:=λ_ _ _ _ hi hl hs _=>wpIn_exit (nq (.exit id) (.exit id) (λ_ _=>rfl) hi hl hs h)
theorem Sr{l:Nat}(h:Q (.goto l) L ob):awp df P n K kk (.goto l) Q L ob:=λ_ _ _ _ hi hl hs _=>wpIn_goto (nq (.goto l) (.goto l) (λ_ _=>rfl) hi hl hs h)
theorem jg{x y:Code}(h:awp df P n K kk x (E8 (awp df P n K kk y Q) Q) L ob):awp df P n K kk (.seq x y) Q L ob:=by
 intro m γ w a hi hl hs hd;refine wpIn_seq (wpIn_mono (h m γ w a hi hl hs hd) ?_);intro e a1 w1 ⟨m1,γ1,L1,ob1,ax,h1,h2,h3,h4,h5,h6,h7,h8⟩;have h7':Marks (x.rf||y.rf) a.defers w a1.defers γ1 w1:=h7.up λe=>by rw[e];rfl
 have go: ∀(e:Exit)(ax:AX),E8 (awp df P n K kk y Q) Q ax L1 ob1->E7 m1 γ1 e ax->Exit.then (y.wpIn (eJ df) 0 P<|kK (x.rf||y.rf) a.defers K kk n Q m γ w) (kK (x.rf||y.rf) a.defers K kk n Q m γ w) e a1 w1:=by
  intro e ax h1 h2;cases e with
  |normal=>
   cases ax<;>first|exact h2.elim|skip
   exact wpIn_mono (h1 m1 γ1 w1 a1 h4 h5 h6 trivial) λe2 a2 w2 hp=>kK.trans h3 h8 h7 (λe=>by rw[e];rfl) (λe=>by rw[e,Bool.or_true]) hp
  |ret=>cases ax<;>first|exact h2.elim|exact⟨m1,γ1,L1,ob1,_,h1,h2,h3,h4,h5,h6,h7',h8⟩
  |exit=>cases ax<;>first|exact h2.elim|exact⟨m1,γ1,L1,ob1,_,h1,h2,h3,h4,h5,h6,h7',h8⟩
  |goto=>cases ax<;>first|exact h2.elim|exact⟨m1,γ1,L1,ob1,_,h1,h2,h3,h4,h5,h6,h7',h8⟩
  |panic=>cases ax<;>first|exact h2.elim|exact⟨m1,γ1,L1,ob1,_,h1,h2,h3,h4,h5,h6,h7',h8⟩
  |outgrown=>cases ax<;>exact h2.elim
 exact go e ax h1 h2
def aZ(L:Loc):Operand->Option AV
 | .tmp t=>lk L t
 | .const (.agg cs)=>some (.ag<|cs.toList.map .v)
 | .const v=>some (.v v)
 | .global g=>match Si.lookup g with
  |some cs=>some (.pf<|cs.map .v)
  |none=>some (.v<|.pointer<|some ⟨g,0,none⟩)
 | .func f=>some (.fn (.func f) [] [])
theorem vU{m:Mem}{γ:Gam}: ∀(vs:List Value),aB m γ (vs.map .v) vs
 |[]=>by simp[aB]
 |v::vs=>by simp only[af9,aB,Rep];exact⟨v,vs,rfl,rfl,vU vs⟩
theorem Fa{m:Mem}{γ:Gam}{g:Nat}{cs:List Value}(h:Si.lookup g=some cs): ∀(l:List Value)(off:Nat),(∀i x,l[i]? =some x->cs[off+i]? =some x)->bK m γ (l.map .v) g off
 |[],_,_=>by simp[bK]
 |x::l,off,hl=>by
  simp only[af9,bK,Rep];refine⟨⟨x,m.has _ _ ?_,rfl⟩,Fa h l (off+1) λi y hy=> ?_⟩
  ·have:=hl 0 x rfl;grind[AO]
  ·have:=hl (i+1) y (by simpa using hy);grind
section
variable{m:Mem}{γ:Gam}{a:Act}
theorem Bl{v:Value}{av:AV}(h:aZ L (.const v)=some av):Rep m γ av (a.eval<|.const v):=by
 cases v<;>simp only[aZ,afM]at h<;>subst h<;>first
  |(simp only[Rep,Act.eval];exact⟨_,by simp,vU _⟩)
  |simp[Rep,Act.eval]
theorem vV{g:Nat}{av:AV}(h:aZ L (.global g)=some av):Rep m γ av (a.eval<|.global g):=by grind[aZ,Rep,Act.eval,Fa]
theorem nr{x:Operand}{av:AV}(hl:b9 m γ a L)(h:aZ L x=some av):Rep m γ av (a.eval x):=by
 cases x with
 |tmp t=>exact(hl t av h).2
 |const v=>exact Bl h
 |global g=>exact vV h
 |func f=>grind[aZ,Rep,Act.eval,aB]
end
theorem fM{c:Operand}{x y:Code}{b:Bool}(hc:aZ L c=some (.v<|.bool b))(ht:b=true->awp df P n K kk x Q L ob)(hf:b=false->awp df P n K kk y Q L ob):awp df P n K kk (.cond c x y) Q L ob:=by intro m γ w a hi hl hs hd;have he:=nr hl hc;simp only[Rep]at he;exact wpIn_cond_split he (λhb=>wpIn_mono (ht hb m γ w a hi hl hs hd)<|by grind[kK.rf,Code.rf]) (λhb=>wpIn_mono (hf hb m γ w a hi hl hs hd)<|by grind[kK.rf,Code.rf])
theorem et{id:Nat}{c:Code}(h:awp df P n K kk c (j8 id Q) L ob):awp df P n K kk (.block id c) Q L ob:=by
 intro m γ w a hi hl hs hd;refine wpIn_block (wpIn_mono (h m γ w a hi hl hs hd) ?_);intro e a1 w1 ⟨m1,γ1,L1,ob1,ax,h1,h2,h3⟩;cases e with
 |normal=>cases ax<;>first|exact h2.elim|exact⟨m1,γ1,L1,ob1,_,h1,h2,h3⟩
 |ret=>cases ax<;>first|exact h2.elim|exact⟨m1,γ1,L1,ob1,_,h1,h2,h3⟩
 |exit j=>
  cases ax<;>first|exact h2.elim|skip
  rename_i k;simp only[E7]at h2;subst h2;simp only[Exit.inBlock,j8]at h1⊢;split
  ·rename_i hj;rw[if_pos hj]at h1;exact⟨m1,γ1,L1,ob1,.normal,h1,trivial,h3⟩
  ·rename_i hj;rw[if_neg hj]at h1;exact⟨m1,γ1,L1,ob1,.exit j,h1,rfl,h3⟩
 |goto=>cases ax<;>first|exact h2.elim|exact⟨m1,γ1,L1,ob1,_,h1,h2,h3⟩
 |panic=>cases ax<;>first|exact h2.elim|exact⟨m1,γ1,L1,ob1,_,h1,h2,h3⟩
 |outgrown=>cases ax<;>exact h2.elim
theorem ns{ι:Type}{c:Code}(S:ι->Loc)(B:ι->lXE)(I:ι->Prop)(μ:ι->Nat)(i0:ι)(h0:I i0)(hL:Sub (S i0) L)(hB:B i0=ob)(round: ∀i,I i->awp df P n K kk c (E8 (λL' ob'=> ∃j,I j/\μ j<μ i/\Sub (S j) L'/\B j=ob') Q) (S i) (B i)):awp df P n K kk (.loop c) Q L ob:=by
 intro m γ w a hi hl hs hd;refine wpIn_loop_ghost (λk a' w'=> ∃m' γ' i,μ i=k/\I i/\Trans m γ w m' γ' w'/\Inv m' γ' (B i) w'/\b9 m' γ' a' (S i)/\a'.tmps.size=n/\Marks c.rf a.defers w a'.defers γ' w'/\(∀o g,kept K kk o->γ o=some g->γ' o=some g))
  (μ i0) ⟨m,γ,i0,rfl,h0,Trans.refl _ _ _,hB▸hi,hl.sub hL,hs,Marks.none _ _ _ _ _,λ_ _ _ h=>h⟩ ?_
 rintro k a1 w1 ⟨m1,γ1,i,rfl,hI,ht,hi1,hl1,hs1,hd1,hk1⟩;refine wpIn_mono (round i hI m1 γ1 w1 a1 hi1 hl1 hs1 trivial) ?_;intro e a2 w2 ⟨m2,γ2,L2,ob2,ax,h1,h2,h3,h4,h5,h6,h7,h8⟩;have h7':=hd1.app ht.size h3 h7;have hk2: ∀o g,kept K kk o->γ o=some g->γ2 o=some g:=λo g ho hg=>h8 o g ho (hk1 o g ho hg);cases e with
 |normal=>
  cases ax<;>first|exact h2.elim|skip
  obtain⟨j,j1,j2,j3,j4⟩:=h1;exact⟨μ j,j2,m2,γ2,j,rfl,j1,ht.trans h3,j4▸h4,h5.sub j3,h6,h7',hk2⟩
 |ret=>cases ax<;>first|exact h2.elim|exact⟨m2,γ2,L2,ob2,_,h1,h2,ht.trans h3,h4,h5,h6,h7',hk2⟩
 |exit=>cases ax<;>first|exact h2.elim|exact⟨m2,γ2,L2,ob2,_,h1,h2,ht.trans h3,h4,h5,h6,h7',hk2⟩
 |goto=>cases ax<;>first|exact h2.elim|exact⟨m2,γ2,L2,ob2,_,h1,h2,ht.trans h3,h4,h5,h6,h7',hk2⟩
 |panic=>cases ax<;>first|exact h2.elim|exact⟨m2,γ2,L2,ob2,_,h1,h2,ht.trans h3,h4,h5,h6,h7',hk2⟩
 |outgrown=>cases ax<;>exact h2.elim
def vb(K:Nat)(kk:lXC)(recs:List Rec):Bool:=recs.all λrc=>match rc.ks with
 |[]=>true
 |k::ks=>(k::ks).all λk=>Nat.ble K k||kk.contains k
theorem CP{recs:List Rec}(h:vb K kk recs=true){o:Nat}(ho:kept K kk o): ∀rc∈recs,rc.ks.contains o=false:=by
 intro rc hrc;simp only[vb,agc]at h;have h1:=h rc hrc;cases hks:rc.ks with
 |nil=>rfl
 |cons k ks=>
  rw[hks]at h1;simp only[agc,ag3]at h1;cases hc:(k::ks).contains o with
  |false=>rfl
  |true=>
   exfalso;have hm:o∈k::ks:=by simpa using hc
   rcases h1 o hm with h2|h2
   ·have:=nbl h2;have:=ho.1;omega
   ·have:=ho.2;rw[h2]at this;cases this
def jn(L:Loc):Loc->Prop
 |[]=>True
 |(t,av)::L3=>lk L t=some av/\jn L L3
def fT{L:Loc}: ∀{L3:Loc},jn L L3->Sub L3 L
 |[],_=>Sub.nil L
 |(_t,_av)::_L3,h=>Sub.cons h.1 (fT h.2)
def EvK(P:Program)(n:Nat)(ops:Array Oper)(l:List Oper)(L:Loc)(ob:lXE)(kf:List Rec->Loc->lXE->Prop):Prop:= ∃recs L2 ob2,Ev P n ops l recs L ob L2 ob2/\kf recs L2 ob2
section
variable{n:Nat}{ops:Array Oper}
def ou{kf:List Rec->Loc->lXE->Prop}(h:kf [] L ob):EvK P n ops [] L ob kf:=⟨[],L,ob,.nil _ _,h⟩
theorem iu{o:Oper}{rest:List Oper}{rc:Rec}{ob':lXE}{kf:List Rec->Loc->lXE->Prop}(hus:Sub rc.us L)(hdst:rc.dst=o.dst)(hn: ∀d,o.dst=some d->d<n)(hst:jH P ops o rc ob ob')(h:EvK P n ops rest (c7 L rc.dst rc.r rc.ks) ob' (λrecs=>kf (rc::recs))):EvK P n ops (o::rest) L ob kf:=by obtain⟨recs,L2,ob2,hev,hk⟩:=h;exact⟨rc::recs,L2,ob2,.cons hus hdst hn hst hev,hk⟩
end
def Ss(K:Nat)(kk:lXC)(Q:ep)(recs:List Rec)(L2:Loc)(ob2:lXE):Prop:=vb K kk recs=true/\ ∃L3,jn L2 L3/\Q .normal L3 ob2
theorem IG{id:Nat}{l:List Oper}(hst:df=none\/l.all Oper.still=true)(h:EvK P n l.toArray l L ob (Ss K kk Q)):awp df P n K kk (.region id l.toArray false) Q L ob:=by obtain⟨recs,L2,ob2,hev,hk,L3,hL,hq⟩:=h;intro m γ w a hi hl hs hd;refine wpIn_region_lit ?_;exact Sl hev hst hi hl hs λm' γ' w' a' ht hi' hl' hs' hd' hk'=>⟨m',γ',L3,ob2,.normal,hq,trivial,ht,hi',hl'.sub (fT hL),hs',.of_eq hd',(by grind[CP])⟩
def aai{K:Nat}{kk:lXC}{Q:ep}{recs:List Rec}{L2 L3:Loc}{ob2:lXE}(h:vb K kk recs=true)(hL:jn L2 L3)(hq:Q .normal L3 ob2):Ss K kk Q recs L2 ob2:=⟨h,L3,hL,hq⟩
end
def Su:TypeDesc->Bool
 | .struct _| .array _ _=>true
 |_=>false
section
variable(P:Program)
def tyk(t:TypeId):Option (Bool×Nat):=match P.underlying t,P.info? t with
 |some d,some i=>some (Su d,i.size)
 |_,_=>none
def fld(s f:Nat):Option Nat:=match P.underlying s with
 |some (.struct fs)=>match fs[f]? with
  |some fd=>match P.info? fd.type with
   |some i=>if i.size=0 then none else some fd.offset
   |none=>none
  |none=>none
 |_=>none
def slk(t:TypeId):Option (TypeId×Nat×Nat):=match P.underlying t with
 |some (.slice e)=>match P.info? e with
  |some i=>some (e,i.size,i.bytes)
  |none=>none
 |_=>none
def zer(t:TypeId):Option (List Value):=match P.info? t with
 |some i=>i.zero.map λz=>z.cells.toList
 |none=>none
end
section
variable{P:Program}{w:World}
section
variable{t:TypeId}{g:Bool}{k:Nat}
theorem sJ(h:tyk P t=some (g,k)):(isAgg t).run P w= .ok g w:=by
 unfold tyk at h;cases hu:P.underlying t with
 |none=>simp[hu]at h
 |some d=>
  cases hi:P.info? t with
  |none=>simp[hu,hi]at h
  |some i=>simp only[hu,hi,afM,af7]at h;unfold isAgg;rw[Sem.run_bind,run_underlying hu w];simp only[Result.andThen_ok];rw[<-h.1];cases d<;>simp[Su]
theorem run_sizeOf(h:tyk P t=some (g,k)):(sizeOf t).run P w= .ok k w:=by
 unfold tyk at h;cases hu:P.underlying t with
 |none=>simp[hu]at h
 |some d=>
  cases hi:P.info? t with
  |none=>simp[hu,hi]at h
  |some i=>simp_all[sizeOf,typeInfo]
end
theorem fN(b off j:Nat):(⟨b,off,none⟩:Addr).add j=⟨b,off+j,none⟩:=by unfold Addr.add;split<;>simp_all
theorem jz{t:TypeId}{k:Nat}(h:tyk P t=some (true,k)){b off:Nat}{xs:List Value}(hx: ∀j v,xs[j]? =some v->w.cell? ⟨b,off+j,none⟩=some v)(hl:xs.length=k):(loadVar t ⟨b,off,none⟩).run P w= .ok (.agg xs.toArray) w:=by have hc:=run_loadCells_list (P:=P) w ⟨b,off,none⟩ xs (λj v hv=>by rw[fN];exact hx j v hv);rw[hl]at hc;simp[loadVar,sJ h,run_sizeOf h,hc]
theorem jA{t:TypeId}{k:Nat}(h:tyk P t=some (false,k)){b off:Nat}{x:Value}(hx:w.cell? ⟨b,off,none⟩=some x):(loadVar t ⟨b,off,none⟩).run P w= .ok x w:=by simp[loadVar,sJ h,hx]
end
inductive sK where
 |ret (av:AV)
 |panic (av:AV)
def mm(m:Mem)(γ:Gam):Ending->sK->Prop
 | .returned v,.ret av=>Rep m γ av v
 | .panicked chain,.panic av=> ∃v,chain=[{v,recovered:=false}]/\Rep m γ av v
 |_,_=>False
def lu(P:Program)(f:FuncId)(args:lXF)(ob:lXE)(kk:lXC)(R:sK->lXE->Prop):Prop:=
 (∃fn,P.funcs[f]? =some fn/\(fn.name== "runtime.NumGoroutine")=false/\fn.body.isNone=false)/\
 ∀m γ w vs,Inv m γ ob w->aB m γ args vs->Calls P f vs.toArray w λe w'=>∃m' γ' r ob',R r ob'/\mm m' γ' e r/\Trans m γ w m' γ' w'/\Inv m' γ' ob' w'/\(∀o g,kk.contains o=false->γ o=some g->γ' o=some g)
def fi:Nat->lXF->Loc
 |_,[]=>[]
 |k,av::r=>(k,av)::fi (k+1) r
inductive nu(P:Program)(L:Loc)(ob:lXE):List ResultVar->lXF->Prop
 |nil:nu P L ob [] []
 |tmp {t:Tmp} {av:AV} {rs:List ResultVar} {avs:lXF} (h:lk L t=some av) (hr:nu P L ob rs avs):nu P L ob (.tmp t::rs) (av::avs)
 |agg {t:Tmp} {ty:TypeId} {o off k:Nat} {Tb:TypeId} {cells:lXF} {rs:List ResultVar} {avs:lXF} (ht:tyk P ty=some (true,k)) (h:lk L t=some (.pt o off)) (ho:ob[o]? =some (.box Tb cells)) (hk:off+k<=cells.length)
   (hr:nu P L ob rs avs):nu P L ob (.cell t ty::rs) (.ag ((cells.drop off).take k)::avs)
 |one {t:Tmp} {ty:TypeId} {o off k:Nat} {c:AV} {Tb:TypeId} {cells:lXF} {rs:List ResultVar} {avs:lXF} (ht:tyk P ty=some (false,k)) (h:lk L t=some (.pt o off)) (ho:ob[o]? =some (.box Tb cells)) (hk:cells[off]? =some c)
   (hr:nu P L ob rs avs):nu P L ob (.cell t ty::rs) (c::avs)
def fO:lXF->AV
 |[av]=>av
 |avs=> .tu avs
section
variable{P:Program}{L:Loc}{ob:lXE}{m:Mem}{γ:Gam}{w:World}{a:Act}
theorem gW{x:Value}{o off:Nat}(h:Rep m γ (.pt o off) x): ∃b C,γ o=some (some (b,C))/\x= .pointer (some ⟨b,off,none⟩):=by simpa [Rep]using h
theorem CQ(hi:Inv m γ ob w){o:Nat}{Tb:TypeId}{cells:lXF}(ho:ob[o]? =some (.box Tb cells)): ∃b cs,γ o=some (some (b,0))/\w.heap[b]? =some (.cells cs Tb (0,0))/\aB m γ cells cs.toList:=by obtain⟨b,cs,h1,h2,h3,_⟩:=hi.obj o _ ho;exact⟨b,cs,h1,h2,h3⟩
theorem cell_of{b i:Nat}{cs:Array Value}{T:TypeId}{fr:Nat×Nat}(h:w.heap[b]? =some (.cells cs T fr)):w.cell? ⟨b,i,none⟩=cs[i]? :=by simp[World.cell?,h]
theorem qt(hi:Inv m γ ob w){o off k:Nat}{Tb:TypeId}{cells:lXF}(ho:ob[o]? =some (.box Tb cells))(hk:off+k<=cells.length){x:Value}(hx:Rep m γ (.pt o off) x){ty:TypeId}(ht:tyk P ty=some (true,k)):∃b y,x= .pointer (some ⟨b,off,none⟩)/\(loadVar ty ⟨b,off,none⟩).run P w= .ok y w/\Rep m γ (.ag<|(cells.drop off).take k) y:=by
 obtain⟨b,C,h1,rfl⟩:=gW hx;obtain⟨b',cs,g1,g2,g3⟩:=CQ hi ho;rw[h1]at g1;cases g1;have hr:=eg (eY g3 off) k;refine⟨b,_,rfl,jz ht (xs:=(cs.toList.drop off).take k) ?_ ?_,?_⟩
 ·grind[cell_of]
 ·rw[aX hr];simp;omega
 grind[Rep]
theorem qu(hi:Inv m γ ob w){o off k:Nat}{c:AV}{Tb:TypeId}{cells:lXF}(ho:ob[o]? =some (.box Tb cells))(hk:cells[off]? =some c){x:Value}(hx:Rep m γ (.pt o off) x){ty:TypeId}(ht:tyk P ty=some (false,k)):∃b y,x= .pointer (some ⟨b,off,none⟩)/\(loadVar ty ⟨b,off,none⟩).run P w= .ok y w/\Rep m γ c y:=by grind[gW,CQ,cd,jA,cell_of]
theorem vW(ad:Addr):asAddr (.pointer<|some ad)=pure ad:=rfl
theorem Sv(hi:Inv m γ ob w)(hl:b9 m γ a L){rs:List ResultVar}{avs:lXF}(h:nu P L ob rs avs):∃vs:List Value,(rs.mapM (m:=Sem) λ| .tmp t=>pure (a.tmps.getD t undef)| .cell x t=>do loadVar t<|<-asAddr (a.tmps.getD x undef)).run P w= .ok vs w/\aB m γ avs vs:=by
 induction h with
 |nil=>simp_all[aB]
 |tmp h hr ih=>obtain⟨vs,h1,h2⟩:=ih;refine⟨_::vs,?_,by simp only[aB];exact⟨_,_,rfl,(hl _ _ h).2,h2⟩⟩;simp_all
 |agg ht h ho hk hr ih=>obtain⟨vs,h1,h2⟩:=ih;obtain⟨b,y,e1,e2,e3⟩:=qt hi ho hk (hl _ _ h).2 ht;refine⟨y::vs,?_,by grind[aB]⟩;grind[Sem.run_bind,vW,Sem.run_pure,Result.andThen_ok]
 |one ht h ho hk hr ih=>obtain⟨vs,h1,h2⟩:=ih;obtain⟨b,y,e1,e2,e3⟩:=qu hi ho hk (hl _ _ h).2 ht;refine⟨y::vs,?_,by grind[aB]⟩;grind[Sem.run_bind,vW,Sem.run_pure,Result.andThen_ok]
theorem nv(hi:Inv m γ ob w)(hl:b9 m γ a L){fn:Func}{avs:lXF}(h:nu P L ob fn.results.toList avs): ∃v,(results fn a.tmps).run P w= .ok v w/\Rep m γ (fO avs) v:=by
 obtain⟨vs,h1,h2⟩:=Sv hi hl h;have hm:(fn.results.mapM (m:=Sem) λ| .tmp t=>pure (a.tmps.getD t undef)| .cell x t=>do loadVar t<|<-asAddr (a.tmps.getD x undef)).run P w= .ok vs.toArray w:=by grind[Array.mapM_eq_mapM_toList,Sem.run_map,Result.andThen_ok]
 refine⟨if h:vs.toArray.size=1 then vs.toArray[0]else .tuple vs.toArray,?_,?_⟩
 ·unfold results;refine(Sem.run_bind P w _ _).trans ?_;exact(af1 (λr=>Result.andThen r _) hm).trans rfl
 ·match avs,vs,h2 with
  |[],vs,h2=>grind[aB,fO,Rep]
  |[av],vs,h2=>grind[aB,fO]
  |av::bv::avs,vs,h2=>have hlen:=aX h2;simp_all[fO,Rep]
theorem Bm: ∀(k:Nat)(avs:lXF)(t:Nat),lk (fi k avs) t=if k<=t then avs[t-k]? else none
 |k,[],t=>by simp[fi,lk]
 |k,av::r,t=>by simp only[fi];rw[dP,Bm (k+1) r t];grind
theorem nw{args:lXF}{vs:List Value}{n:Nat}(hv:aB m γ args vs)(_hn:args.length<=n):b9 m γ {tmps:=vs.toArray++Array.replicate (n-vs.toArray.size) undef,defers:=[]} (fi 0 args):=by intro t av h;rw[Bm]at h;simp only[agn,agX,Nat.sub_zero]at h;obtain⟨x,hx,hr⟩:=cd hv t av h;have hlt:t<vs.length:=(afR.1 hx).1;refine⟨by simp;omega,?_⟩;simp_all[Array.getElem?_append_left]
end
def Bn(P:Program)(fn:Func)(R:sK->lXE->Prop):ep
 | .normal,L,ob| .ret,L,ob=> ∃avs,nu P L ob fn.results.toList avs/\R (.ret<|fO avs) ob
 | .panic av,_,ob=>R (.panic av) ob
 |_,_,_=>False
def mn{P:Program}{fn:Func}{tmps:Array Value}{R:Ending->World->Prop}{m:Mem}{γ:Gam}{ob:lXE}{u:FrameMode}(hu:u≠ .run): ∀(Ds:lXC)(w:World),Inv m γ ob w->Ds.Nodup->(∀D∈Ds,D<w.heap.size/\w.heap[D]? =some (.deferred<|some [])/\ ¬InG γ D)->(∀w',Inv m γ ob w' ->w'.os=w.os->w'.tape=w.tape->w'.output=w.output->w'.heap.size=w.heap.size->(∀k,k∉Ds->w'.heap[k]? =w.heap[k]?)->LeavesIn (eJ none) 0 P fn tmps R [] u w')->LeavesInM (eJ none) 0 P fn tmps R (Ds.map mark) u w
 |[],w,hi,_,_,h=>h w hi rfl rfl rfl rfl λ_ _=>rfl
 |D::Ds,w,hi,hn,hD,h=>by
  obtain⟨hn1,hn2⟩:=List.nodup_cons.1 hn;obtain⟨q1,q2,q3⟩:=hD D oaj;refine⟨hu,.inl ⟨D,_,rfl,run_takeDeferred q2,?_⟩⟩;have hoth: ∀k,k≠D->(w.putObj D<|.deferred none).heap[k]? =w.heap[k]? :=λk hk=>World.putObj_heap_other hk;have hi2:Inv m γ ob (w.putObj D<|.deferred none):=by
   refine⟨λa x hx=> ?_,λo X hX=> ?_,hi.sep,λo b C hg=>by rw[World.putObj_size];exact hi.dom o b C hg,hi.len⟩
   ·have hc:=hi.mem a x hx;have hne:a.block≠D:=by intro e;unfold World.cell? at hc;rw[e,q2]at hc;simp at hc
    unfold World.cell? at hc⊢;rw[hoth _ hne];exact hc
   ·have hb:=hi.obj o X hX;have hne: ∀b C,γ o=some (some (b,C))->b≠D:=λb C hg e=>q3 ⟨o,C,e▸hg⟩;cases X with
    |dead=>trivial
    |box T cells=>obtain⟨b,cs,g1,g2,g3⟩:=hb;exact⟨b,cs,g1,(hoth b<|hne b _ g1).trans g2,g3⟩
    |row T S rows=>
     rcases hb with g|⟨b,C,cs,g1,g2,g3⟩
     ·exact .inl g
     ·exact .inr ⟨b,C,cs,g1,g2.of_eq (hoth b<|hne b _ g1),g3⟩
    |mp keys vals=>obtain⟨b,es,clock,g1,g2,g3⟩:=hb;exact⟨b,es,clock,g1,(hoth b<|hne b _ g1).trans g2,g3⟩
    |lp busy k ts cs=>obtain⟨b,r,xs,g1,g2,g3⟩:=hb;exact⟨b,r,xs,g1,(hoth b<|hne b _ g1).trans g2,g3⟩
  refine mn hu Ds _ hi2 hn2 (λE hE=> ?_) λw' hi' e1 e2 e3 e4 e5=>h w' hi' e1 e2 e3 (e4.trans World.putObj_size) λk hk=> ?_
  ·have hne:E≠D:=λe=>hn1 (e▸hE);obtain⟨p1,p2,p3⟩:=hD E (agf _ hE);exact⟨by rw[World.putObj_size];exact p1,(hoth E hne).trans p2,p3⟩
  ·simp only[agq,not_or]at hk;exact(e5 k hk.2).trans (hoth k hk.1)
def ly{P:Program}{f:FuncId}{fn:Func}{c:Code}{args:lXF}{ob:lXE}{kk:lXC}{R:sK->lXE->Prop}(hf:P.funcs[f]? =some fn)(hname:(fn.name== "runtime.NumGoroutine")=false)(hb:fn.body=some c)(hn:args.length<=fn.ntmps)(h:awp none P fn.ntmps ob.length kk c (Bn P fn R) (fi 0 args) ob):lu P f args ob kk R:=by
 refine⟨⟨fn,hf,hname,by simp[hb]⟩,λm γ w vs hi hv=>E6.1 (callsIn_of_wp_marks (F:=eJ none) (n:=0) hf hb trivial ?_)⟩;have hlen:=aX hv;refine wpIn_mono (h m γ w _ hi (nw hv hn) oaA trivial) ?_;intro e a' w' ⟨m',γ',L',ob',x,h1,h2,h3,h4,h5,h6,h7,h8⟩;have hk: ∀o g,kk.contains o=false->γ o=some g->γ' o=some g:=λo g ho hg=>h8 o g ⟨hi.len o oaL,ho⟩ hg;obtain⟨Ds,m1,_,m3,m4⟩:=h7;simp only[agA]at m1;have tr: ∀w2:World,w2.os=w'.os->w2.tape=w'.tape->w2.output=w'.output->w2.heap.size=w'.heap.size->(∀k,k∉Ds->w2.heap[k]? =w'.heap[k]?)->Trans m γ w m' γ' w2:=λw2 e1 e2 e3 e4 e5=>⟨h3.mem,h3.new,h3.gam,e1.trans h3.os,e2.trans h3.tape,e3.trans h3.output,by rw[e4];exact h3.size,λk hk hng=>(e5 k λhD=>by have:=(m4 k hD).1;omega).trans (h3.blk k hk hng)⟩;have fin: ∀avs,nu P L' ob' fn.results.toList avs->R (.ret<|fO avs) ob' ->LeavesInM (eJ none) 0 P fn a'.tmps (λe w'=> ∃m' γ' r ob',R r ob'/\mm m' γ' e r/\Trans m γ w m' γ' w'/\Inv m' γ' ob' w'/\(∀o g,kk.contains o=false->γ o=some g->γ' o=some g)) a'.defers .returning w':=λavs g1 g2=>by rw[m1];refine mn oaj Ds w' h4 m3 (λD hD=>(m4 D hD).2) λw2 hi2 e1 e2 e3 e4 e5=> ?_;obtain⟨v,k1,k2⟩:=nv hi2 h5 g1;exact⟨v,k1,m',γ',_,ob',g2,k2,tr w2 e1 e2 e3 e4 e5,hi2,hk⟩
 cases e with
 |normal=>
  cases x<;>first|exact h2.elim|skip
  obtain⟨avs,g1,g2⟩:=h1;exact fin avs g1 g2
 |ret=>
  cases x<;>first|exact h2.elim|skip
  obtain⟨avs,g1,g2⟩:=h1;exact fin avs g1 g2
 |exit=>cases x<;>first|exact h2.elim|exact h1.elim
 |goto=>cases x<;>first|exact h2.elim|exact h1.elim
 |panic chain=>
  cases x<;>first|exact h2.elim|skip
  show LeavesInM (eJ none) 0 P fn a'.tmps _ a'.defers (.panicking chain) w';rw[m1];exact mn oaj Ds w' h4 m3 (λD hD=>(m4 D hD).2) λw2 hi2 e1 e2 e3 e4 e5=>⟨m',γ',_,ob',h1,h2,tr w2 e1 e2 e3 e4 e5,hi2,hk⟩
 |outgrown=>cases x<;>exact h2.elim
inductive Gd(ops:Array Oper)(L:Loc):Option (Nat×Bool)->Loc->Prop
 |none:Gd ops L none []
 |some {j t:Nat} {want:Bool} (hj:(ops[j]?).bind (·.dst)=some t) (hl:lk L t=some (.v<|.bool want)):Gd ops L (some (j,want)) [(t,.v (.bool want))]
inductive Gx(ops:Array Oper)(L:Loc):Option (Nat×Bool)->Loc->Prop
 |some {j t:Nat} {want got:Bool} (hj:(ops[j]?).bind (·.dst)=some t) (hl:lk L t=some (.v<|.bool got)) (hne:(got==want)=false):Gx ops L (some (j,want)) [(t,.v (.bool got))]
 |und {j t:Nat} {want:Bool} (hj:(ops[j]?).bind (·.dst)=some t) (hl:lk L t=some (.v undef)):Gx ops L (some (j,want)) [(t,.v undef)]
def cm:List (Operand×AV)->Loc
 |[]=>[]
 |(.tmp t,av)::r=>(t,av)::cm r
 |_::r=>cm r
def eZ(L:Loc):List (Operand×AV)->Prop
 |[]=>True
 |(x,av)::r=>aZ L x=some av/\eZ L r
def iw(m:Mem)(γ:Gam)(a:Act):List (Operand×AV)->Prop
 |[]=>True
 |(x,av)::r=>Rep m γ av (a.eval x)/\iw m γ a r
def e7{L:Loc}: ∀{A B:Loc},jn L A->jn L B->jn L (A++B)
 |[],_,_,h=>h
 |(_t,_av)::_A,_B,h,k=>⟨h.1,e7 h.2 k⟩
theorem sL{L:Loc}: ∀{A:Loc},jn L A-> ∀{t:Nat}{av:AV},(t,av)∈A->lk L t=some av
 |[],_,t,av,h=>by cases h
 |(s,bv)::A,h,t,av,hm=>by
  cases agq.1 hm with
  |inl e=>cases e;exact h.1
  |inr e=>exact sL h.2 e
def nx: ∀{A:Loc}{t:Nat}{av:AV},(t,av)∈A-> ∃bv,lk A t=some bv
 |[],t,av,h=>by cases h
 |(s,bv)::A,t,av,h=>by
  rw[dP];split
  ·exact⟨bv,rfl⟩
  ·rename_i hne;cases agq.1 h with
   |inl e=>cases e;exact absurd rfl hne
   |inr e=>exact nx e
theorem vc{L A:Loc}(h:jn L A){t:Nat}{av:AV}(hm:(t,av)∈A):lk A t=some av:=by obtain⟨bv,hb⟩:=nx hm;have h1:=sL h hm;grind[sL,mj]
def fA{L:Loc}: ∀{xs:List (Operand×AV)},eZ L xs->jn L (cm xs)
 |[],_=>trivial
 |(x,av)::r,h=>by
  cases x with
  |tmp t=>exact⟨h.1,fA h.2⟩
  |const v=>exact fA (xs:=r) h.2
  |global g=>exact fA (xs:=r) h.2
  |func f=>exact fA (xs:=r) h.2
def jo{L A:Loc}(hk:jn L A){m:Mem}{γ:Gam}{a:Act}(hl:b9 m γ a A): ∀{xs:List (Operand×AV)},eZ L xs->(∀p∈cm xs,p∈A)->iw m γ a xs
 |[],_,_=>trivial
 |(x,av)::r,h,hA=>by
  refine⟨?_,jo hk hl h.2 λp hp=>hA p ?_⟩
  ·cases x with
   |tmp t=>exact(hl t av<|vc hk<|hA _<|by simp[cm]).2
   |const v=>exact Bl h.1
   |global g=>exact vV h.1
   |func f=>have:=h.1;grind[aZ,Rep,Act.eval,aB]
  ·cases x<;>simp[cm,hp]
section
variable{ops:Array Oper}
theorem mq{L:Loc}{g:Option (Nat×Bool)}{gu:Loc}(h:Gd ops L g gu):jn L gu:=by
 cases h with
 |none=>trivial
 |some hj hl=>exact⟨hl,trivial⟩
section
variable{a:Act}{m:Mem}{γ:Gam}{A:Loc}{j t:Nat}
theorem pN{b:Bool}(hl:b9 m γ a A)(hj:(ops[j]?).bind (·.dst)=some t)(h:lk A t=some (.v<|.bool b)):yielded ops a.tmps j=some b:=by obtain⟨h1,h2⟩:=hl t _ h;simp_all[Rep,yielded]
theorem Fb(hl:b9 m γ a A)(hj:(ops[j]?).bind (·.dst)=some t)(h:lk A t=some (.v undef)):yielded ops a.tmps j=none:=by obtain⟨h1,h2⟩:=hl t _ h;simp only[Rep]at h2;unfold yielded;rw[hj];simp only[Option.bind_some];rw[agk,agV h1]at h2;simp only[Option.getD_some]at h2;rw[agV h1,h2];rfl
end
theorem iT{L:Loc}{o:Oper}{gu:Loc}(h:Gd ops L o.guard gu){m:Mem}{γ:Gam}{a:Act}{A:Loc}(hk:jn L A)(hl:b9 m γ a A)(hA: ∀p∈gu,p∈A):Region.wanted o (yielded ops a.tmps)=true:=by
 unfold Region.wanted;generalize o.guard=g at h;cases h with
 |none=>rfl
 |some hj hl'=>grind[pN,vc]
end
section
variable{P:Program}{n:Nat}{ops:Array Oper}{l:List Oper}{L:Loc}{ob:lXE}{kf:List Rec->Loc->lXE->Prop}{gu:Loc}
section
variable{o:Oper}{r:AV}
theorem cY(xs:List (Operand×AV))(hx:eZ L xs)(hg:Gd ops L o.guard gu)(hn: ∀d,o.dst=some d->d<n)(h: ∀m γ w a,(∀ad x,m ad=some x->w.cell? ad=some x)->iw m γ a xs-> ∃x,(execOp a.eval o).run P w= .ok (.value x) w/\Rep m γ r x)(k:EvK P n ops l (c7 L o.dst r []) ob (λrecs=>kf (⟨o.dst,gu++cm xs,r,[],.pure⟩::recs))):EvK P n ops (o::l) L ob kf:=by have hkeep:=e7 (mq hg) (fA hx);refine iu (rc:=⟨o.dst,gu++cm xs,r,[],.pure⟩) (fT hkeep) rfl hn ⟨rfl,rfl,λob' m γ w a K Q hi hl hK=> ?_⟩ k;have hw:=iT hg hkeep hl (λp hp=>by simp[hp]);simp only[hw,agX];obtain⟨x,h1,h2⟩:=h m γ w a hi.mem (jo hkeep hl hx<|λp hp=>by simp[hp]);refine .inl ?_;unfold Oper.wp;rw[h1,Oper.upon_value];exact hK m γ w x (Trans.refl _ _ _) ⟨λ_ _ h=>h,λ_ _ h _=>h⟩ hi h2
theorem aaj(xs:List (Operand×AV))(hx:eZ L xs)(hg:Gd ops L o.guard gu)(hn: ∀d,o.dst=some d->d<n)(h: ∀m γ w a,Inv m γ ob w->iw m γ a xs-> ∃x,(execOp a.eval o).run P w= .ok (.value x) w/\Rep m γ r x)(k:EvK P n ops l (c7 L o.dst r []) ob (λrecs=>kf (⟨o.dst,gu++cm xs,r,[],.read⟩::recs))):EvK P n ops (o::l) L ob kf:=by have hkeep:=e7 (mq hg) (fA hx);refine iu (rc:=⟨o.dst,gu++cm xs,r,[],.read⟩) (fT hkeep) rfl hn ⟨rfl,rfl,λm γ w a K Q hi hl hK=> ?_⟩ k;have hw:=iT hg hkeep hl (λp hp=>by simp[hp]);simp only[hw,agX];obtain⟨x,h1,h2⟩:=h m γ w a hi (jo hkeep hl hx<|λp hp=>by simp[hp]);refine .inl ?_;unfold Oper.wp;rw[h1,Oper.upon_value];exact hK m γ w x (Trans.refl _ _ _) ⟨λ_ _ h=>h,λ_ _ h _=>h⟩ hi h2
theorem vX{k:Nat}{X:Ob}(hX:ob[k]? =some X)(xs:List (Operand×AV))(hx:eZ L xs)(hg:Gd ops L o.guard gu)(hn: ∀d,o.dst=some d->d<n)(h: ∀ob m γ w a,ob[k]? =some X->Inv m γ ob w->iw m γ a xs-> ∃x,(execOp a.eval o).run P w= .ok (.value x) w/\Rep m γ r x)(kk:EvK P n ops l (c7 L o.dst r []) ob (λrecs=>kf (⟨o.dst,gu++cm xs,r,[],.rd k X⟩::recs))):EvK P n ops (o::l) L ob kf:=by have hkeep:=e7 (mq hg) (fA hx);refine iu (rc:=⟨o.dst,gu++cm xs,r,[],.rd k X⟩) (fT hkeep) rfl hn (show jH P ops o ⟨o.dst,gu++cm xs,r,[],.rd k X⟩ ob ob from⟨hX,rfl,rfl,λob' hX' m γ w a K Q hi hl hK=> ?_⟩) kk;have hw:=iT hg hkeep hl (λp hp=>by simp[hp]);simp only[hw,agX];obtain⟨x,h1,h2⟩:=h ob' m γ w a hX' hi (jo hkeep hl hx<|λp hp=>by simp[hp]);refine .inl ?_;unfold Oper.wp;rw[h1,Oper.upon_value];exact hK m γ w x (Trans.refl _ _ _) ⟨λ_ _ h=>h,λ_ _ h _=>h⟩ hi h2
theorem Fc{k:Nat}{X X':Ob}(hX:ob[k]? =some X)(xs:List (Operand×AV))(hx:eZ L xs)(hg:Gd ops L o.guard gu)(hn: ∀d,o.dst=some d->d<n)(h: ∀ob m γ w a(K:Act->World->Prop)(Q:Exit->Act->World->Prop),ob[k]? =some X->Inv m γ ob w->iw m γ a xs->(∀m' γ' w' x,Trans m γ w m' γ' w' ->Le m γ [] m' γ' ->Inv m' γ' (ob.set k X') w' ->Rep m' γ' r x->K (a.put o.dst x) w')->o.wp P a w K Q)(kk:EvK P n ops l (c7 L o.dst r []) (ob.set k X') (λrecs=>kf (⟨o.dst,gu++cm xs,r,[],.st k X X'⟩::recs))):EvK P n ops (o::l) L ob kf:=by have hkeep:=e7 (mq hg) (fA hx);refine iu (rc:=⟨o.dst,gu++cm xs,r,[],.st k X X'⟩) (fT hkeep) rfl hn (show jH P ops o ⟨o.dst,gu++cm xs,r,[],.st k X X'⟩ ob (ob.set k X')from⟨hX,rfl,λob' hX' m γ w a K Q hi hl hK=> ?_⟩) kk;have hw:=iT hg hkeep hl (λp hp=>by simp[hp]);simp only[hw,agX];exact .inl (h ob' m γ w a K Q hX' hi (jo hkeep hl hx<|λp hp=>by simp[hp]) hK)
theorem CS(xs:List (Operand×AV))(hx:eZ L xs)(hg:Gd ops L o.guard gu)(hn: ∀d,o.dst=some d->d<n)(h: ∀ob m γ w a(K:Act->World->Prop)(Q:Exit->Act->World->Prop),Inv m γ ob w->iw m γ a xs->(∀m' γ' w' x,Trans m γ w m' γ' w' ->Le m γ [] m' γ' ->Inv m' γ' ob w' ->Rep m' γ' r x->K (a.put o.dst x) w')->o.wp P a w K Q)(k:EvK P n ops l (c7 L o.dst r []) ob (λrecs=>kf (⟨o.dst,gu++cm xs,r,[],.pure⟩::recs))):EvK P n ops (o::l) L ob kf:=by have hkeep:=e7 (mq hg) (fA hx);refine iu (rc:=⟨o.dst,gu++cm xs,r,[],.pure⟩) (fT hkeep) rfl hn ⟨rfl,rfl,λob' m γ w a K Q hi hl hK=> ?_⟩ k;have hw:=iT hg hkeep hl (λp hp=>by simp[hp]);simp only[hw,agX];exact .inl (h ob' m γ w a K Q hi (jo hkeep hl hx<|λp hp=>by simp[hp]) hK)
theorem jP{ob1:lXE}(ks:lXC)(xs:List (Operand×AV))(hx:eZ L xs)(hg:Gd ops L o.guard gu)(hn: ∀d,o.dst=some d->d<n)(h: ∀m γ w a(K:Act->World->Prop)(Q:Exit->Act->World->Prop),Inv m γ ob w->iw m γ a xs->(∀m' γ' w' x,Trans m γ w m' γ' w' ->Le m γ ks m' γ' ->Inv m' γ' ob1 w' ->Rep m' γ' r x->K (a.put o.dst x) w')->o.wp P a w K Q)(k:EvK P n ops l (c7 L o.dst r ks) ob1 (λrecs=>kf (⟨o.dst,gu++cm xs,r,ks,.write⟩::recs))):EvK P n ops (o::l) L ob kf:=by have hkeep:=e7 (mq hg) (fA hx);refine iu (rc:=⟨o.dst,gu++cm xs,r,ks,.write⟩) (fT hkeep) rfl hn (show GStep P ops o ⟨o.dst,gu++cm xs,r,ks,.write⟩ ob ob1 from λm γ w a K Q hi hl hK=> ?_) k;have hw:=iT hg hkeep hl (λp hp=>by simp[hp]);simp only[hw,agX];exact .inl (h m γ w a K Q hi (jo hkeep hl hx<|λp hp=>by simp[hp]) hK)
end
theorem aak{o:Oper}(hg:Gx ops L o.guard gu)(hn: ∀d,o.dst=some d->d<n)(k:EvK P n ops l (c7 L o.dst (.v undef) []) ob (λrecs=>kf (⟨o.dst,gu,.v undef,[],.pure⟩::recs))):EvK P n ops (o::l) L ob kf:=by
 have hkeep:jn L gu:=by
  generalize o.guard=g at hg;cases hg with
  |some hj hl _=>exact⟨hl,trivial⟩
  |und hj hl=>exact⟨hl,trivial⟩
 refine iu (rc:=⟨o.dst,gu,.v undef,[],.pure⟩) (fT hkeep) rfl hn ⟨rfl,rfl,λob' m γ w a K Q hi hl hK=> ?_⟩ k;have hw:Region.wanted o (yielded ops a.tmps)=false:=by
  unfold Region.wanted;generalize o.guard=g at hg;cases hg with
  |some hj hl' hne=>have:=pN hl hj (vc hkeep<|agZ.2 rfl);simpa [this]using hne
  |und hj hl'=>have:=Fb hl hj (vc hkeep<|agZ.2 rfl);simp[this]
 simp only[hw,Bool.false_eq_true,if_false];exact hK m γ w undef (Trans.refl _ _ _) ⟨λ_ _ h=>h,λ_ _ h _=>h⟩ hi (by simp[Rep])
variable{dst:Option Nat}{ty:TypeId}{pos:String}{after:Array Edge}{guard:Option (Nat×Bool)}
def aal{x:Operand}{av:AV}(hx:aZ L x=some av)(hg:Gd ops L guard gu)(hn: ∀d,dst=some d->d<n)(k:EvK P n ops l (c7 L dst av []) ob (λrecs=>kf<|⟨dst,gu++cm [(x,av)],av,[],.pure⟩::recs)):EvK P n ops (⟨dst,.move x,ty,pos,after,guard⟩::l) L ob kf:=cY (o:=⟨dst,.move x,ty,pos,after,guard⟩) [(x,av)] ⟨hx,trivial⟩ hg hn (λ_m _γ _w _a _ h=>⟨_,rfl,h.1⟩) k
def Bo{x:Operand}{av:AV}(hx:aZ L x=some av)(hg:Gd ops L guard gu)(hn: ∀d,dst=some d->d<n)(k:EvK P n ops l (c7 L dst av []) ob (λrecs=>kf<|⟨dst,gu++cm [(x,av)],av,[],.pure⟩::recs)):EvK P n ops (⟨dst,.assign x,ty,pos,after,guard⟩::l) L ob kf:=cY (o:=⟨dst,.assign x,ty,pos,after,guard⟩) [(x,av)] ⟨hx,trivial⟩ hg hn (λ_m _γ _w _a _ h=>⟨_,rfl,h.1⟩) k
theorem aam{c x y:Operand}{b:Bool}{u v:AV}(hc:aZ L c=some (.v<|.bool b))(hx:aZ L x=some u)(hy:aZ L y=some v)(hg:Gd ops L guard gu)(hn: ∀d,dst=some d->d<n)(k:EvK P n ops l (c7 L dst (cond b u v) []) ob (λrecs=>kf<|⟨dst,gu++cm [(c,.v (.bool b)),(x,u),(y,v)],cond b u v,[],.pure⟩::recs)):EvK P n ops (⟨dst,.pick c x y,ty,pos,after,guard⟩::l) L ob kf:=
 cY (o:=⟨dst,.pick c x y,ty,pos,after,guard⟩) [(c,.v (.bool b)),(x,u),(y,v)] ⟨hc,hx,hy,trivial⟩ hg hn (λm γ w a _ h=>by
  have h1:=h.1;simp only[Rep]at h1;refine⟨if b then a.eval x else a.eval y,?_,?_⟩
  ·simp_all[execOp,asBool]
  ·cases b
   ·exact h.2.2.1
   ·exact h.2.1) k
section
variable{t:TypeId}{x:Operand}
theorem vY{cs:lXF}{k:Nat}(out:lXF)(ht:tyk P t=some (true,k))(hx:aZ L x=some (.pf cs))(hk:k<=cs.length)(hout:cs.take k=out)(hg:Gd ops L guard gu)(hn: ∀d,dst=some d->d<n)(kk:EvK P n ops l (c7 L dst (.ag out) []) ob (λrecs=>kf<|⟨dst,gu++cm [(x,.pf cs)],.ag out,[],.pure⟩::recs)):EvK P n ops (⟨dst,.load t x,ty,pos,after,guard⟩::l) L ob kf:=by
 subst hout;exact cY (o:=⟨dst,.load t x,ty,pos,after,guard⟩) [(x,.pf cs)] ⟨hx,trivial⟩ hg hn (λm γ w a hm h=>by
  have h1:=h.1;simp only[Rep]at h1;obtain⟨b,off,h2,h3⟩:=h1;obtain⟨xs,g1,g2⟩:=lj h3;have hr:=eg g1 k;refine⟨.agg (xs.take k).toArray,?_,by simp only[Rep];exact⟨_,rfl,hr⟩⟩;have:=jz (P:=P) (w:=w) ht (b:=b) (off:=off) (xs:=xs.take k) (λj v hv=>by
   rw[agE]at hv;split at hv
   ·exact hm _ _ (g2 j v hv)
   ·cases hv) (by rw[aX hr];simp;omega)
  simp[execOp,h2,Instr.loadAt,Instr.sureAddr,this]) kk
theorem vZ{c:AV}{cs:lXF}{k:Nat}(ht:tyk P t=some (false,k))(hx:aZ L x=some (.pf (c::cs)))(hg:Gd ops L guard gu)(hn: ∀d,dst=some d->d<n)(kk:EvK P n ops l (c7 L dst c []) ob (λrecs=>kf<|⟨dst,gu++cm [(x,.pf (c::cs))],c,[],.pure⟩::recs)):EvK P n ops (⟨dst,.load t x,ty,pos,after,guard⟩::l) L ob kf:=cY (o:=⟨dst,.load t x,ty,pos,after,guard⟩) [(x,.pf (c::cs))] ⟨hx,trivial⟩ hg hn (λm γ w a hm h=>by have h1:=h.1;simp only[Rep,bK]at h1;obtain⟨b,off,h2,⟨y,h3,h4⟩,h5⟩:=h1;simp_all[jA,execOp,Instr.loadAt,Instr.sureAddr]) kk
theorem v3{o off k:Nat}{Tb:TypeId}{cells:lXF}(out:lXF)(ht:tyk P t=some (true,k))(hx:aZ L x=some (.pt o off))(ho:ob[o]? =some (.box Tb cells))(hk:off+k<=cells.length)(hout:(cells.drop off).take k=out)(hg:Gd ops L guard gu)(hn: ∀d,dst=some d->d<n)(kk:EvK P n ops l (c7 L dst (.ag out) []) ob (λrecs=>kf<|⟨dst,gu++cm [(x,.pt o off)],.ag out,[],.rd o (.box Tb cells)⟩::recs)):EvK P n ops (⟨dst,.load t x,ty,pos,after,guard⟩::l) L ob kf:=by subst hout;exact vX (o:=⟨dst,.load t x,ty,pos,after,guard⟩) ho [(x,.pt o off)] ⟨hx,trivial⟩ hg hn (λob m γ w a ho hi h=>by obtain⟨b,y,e1,e2,e3⟩:=qt hi ho hk h.1 ht;simp_all[execOp,Instr.loadAt,Instr.sureAddr]) kk
theorem v5{o off k:Nat}{c:AV}{Tb:TypeId}{cells:lXF}(ht:tyk P t=some (false,k))(hx:aZ L x=some (.pt o off))(ho:ob[o]? =some (.box Tb cells))(hk:cells[off]? =some c)(hg:Gd ops L guard gu)(hn: ∀d,dst=some d->d<n)(kk:EvK P n ops l (c7 L dst c []) ob (λrecs=>kf<|⟨dst,gu++cm [(x,.pt o off)],c,[],.rd o (.box Tb cells)⟩::recs)):EvK P n ops (⟨dst,.load t x,ty,pos,after,guard⟩::l) L ob kf:=vX (o:=⟨dst,.load t x,ty,pos,after,guard⟩) ho [(x,.pt o off)] ⟨hx,trivial⟩ hg hn (λob m γ w a ho hi h=>by obtain⟨b,y,e1,e2,e3⟩:=qu hi ho hk h.1 ht;simp_all[execOp,Instr.loadAt,Instr.sureAddr]) kk
end
section
variable{s f off:Nat}
theorem tK(h:fld P s f=some off)(w:World)(b o:Nat):(Instr.fieldAt s (.pointer<|some ⟨b,o,none⟩) f).run P w= .ok (.pointer<|some ⟨b,o+off,none⟩) w:=by
 unfold fld at h;cases hu:P.underlying s with
 |none=>simp[hu]at h
 |some d=>
  cases d with
  |struct fs=>
   simp only[hu]at h;cases hf:fs[f]? with
   |none=>simp[hf]at h
   |some fd=>
    simp only[hf]at h;cases hi:P.info? fd.type with
    |none=>simp[hi]at h
    |some i=>simp_all[Instr.fieldAt,Instr.sureAddr,fieldPlace,sizeOf,typeInfo,fN,run_underlying]
  |_=>simp[hu]at h
theorem ur{x:Operand}{o p:Nat}(q:Nat)(hf:fld P s f=some off)(hx:aZ L x=some (.pt o p))(hq:p+off=q)(hg:Gd ops L guard gu)(hn: ∀d,dst=some d->d<n)(kk:EvK P n ops l (c7 L dst (.pt o q) []) ob (λrecs=>kf<|⟨dst,gu++cm [(x,.pt o p)],.pt o q,[],.pure⟩::recs)):EvK P n ops (⟨dst,.fieldAddr s x f,ty,pos,after,guard⟩::l) L ob kf:=by subst hq;exact cY (o:=⟨dst,.fieldAddr s x f,ty,pos,after,guard⟩) [(x,.pt o p)] ⟨hx,trivial⟩ hg hn (λm γ w a hm h=>by obtain⟨b,C,h1,h2⟩:=gW h.1;simp_all[execOp,tK,Rep]) kk
theorem uv{x:Operand}{cs:lXF}(out:lXF)(hf:fld P s f=some off)(hx:aZ L x=some (.pf cs))(hout:cs.drop off=out)(hg:Gd ops L guard gu)(hn: ∀d,dst=some d->d<n)(kk:EvK P n ops l (c7 L dst (.pf out) []) ob (λrecs=>kf<|⟨dst,gu++cm [(x,.pf cs)],.pf out,[],.pure⟩::recs)):EvK P n ops (⟨dst,.fieldAddr s x f,ty,pos,after,guard⟩::l) L ob kf:=by subst hout;exact cY (o:=⟨dst,.fieldAddr s x f,ty,pos,after,guard⟩) [(x,.pf cs)] ⟨hx,trivial⟩ hg hn (λm γ w a hm h=>by have h1:=h.1;simp only[Rep]at h1;obtain⟨b,o,h2,h3⟩:=h1;refine⟨_,by simp[execOp,h2,tK hf];rfl,?_⟩;simp only[Rep];exact⟨b,o+off,rfl,fS h3 off⟩) kk
end
theorem tL{x:Operand}{av:AV}(hx:aZ L x=some av)(hav:match av with| .pt _ _| .pf _=>True|_=>False)(hg:Gd ops L guard gu)(hn: ∀d,dst=some d->d<n)
  (kk:EvK P n ops l (c7 L dst av []) ob (λrecs=>kf<|⟨dst,gu++cm [(x,av)],av,[],.pure⟩::recs)):EvK P n ops (⟨dst,.nilCheck x,ty,pos,after,guard⟩::l) L ob kf:=
 cY (o:=⟨dst,.nilCheck x,ty,pos,after,guard⟩) [(x,av)] ⟨hx,trivial⟩ hg hn (λm γ w a hm h=>by
  have h1:=h.1;cases av with
  |pt o p=>obtain⟨b,C,h2,h3⟩:=gW h1;simp_all[execOp]
  |pf cs=>have h2:=h1;simp only[Rep]at h2;obtain⟨b,o,h3,h4⟩:=h2;simp_all[execOp]
  |_=>exact hav.elim) kk
theorem IH{x:Operand}{i:Nat}{vs:lXF}{av:AV}(hx:aZ L x=some (.tu vs))(hi:vs[i]? =some av)(hg:Gd ops L guard gu)(hn: ∀d,dst=some d->d<n)(kk:EvK P n ops l (c7 L dst av []) ob (λrecs=>kf<|⟨dst,gu++cm [(x,.tu vs)],av,[],.pure⟩::recs)):EvK P n ops (⟨dst,.extract x i,ty,pos,after,guard⟩::l) L ob kf:=cY (o:=⟨dst,.extract x i,ty,pos,after,guard⟩) [(x,.tu vs)] ⟨hx,trivial⟩ hg hn (λm γ w a hm h=>by have h1:=h.1;simp only[Rep]at h1;obtain⟨xs,h2,h3⟩:=h1;obtain⟨y,h4,h5⟩:=cd h3 i av hi;simp_all[execOp,Instr.extract]) kk
end
theorem wrap_i64{a:Int}(h0: -9223372036854775808<=a)(h1:a<=9223372036854775807):IntKind.i64.wrap a=a:=by grind[wrap,IntKind.signed,IntKind.bits]
def kt(P:Program)(t:TypeId):Nat:=match P.underlying t with
 |some (.int _)=>0
 |some .bool=>1
 |some .string=>2
 |_=>3
section
variable{P:Program}{w:World}
end
section
variable{P:Program}{n:Nat}{ops:Array Oper}{l:List Oper}{L:Loc}{ob:lXE}{kf:List Rec->Loc->lXE->Prop}{gu:Loc}
variable{dst:Option Nat}{ty:TypeId}{pos:String}{after:Array Edge}{guard:Option (Nat×Bool)}
theorem QD{op:Op}{x y:Operand}{u v r:Value}(hx:aZ L x=some (.v u))(hy:aZ L y=some (.v v))(hg:Gd ops L guard gu)(hn: ∀d,dst=some d->d<n)(h: ∀(w:World)(ρ:Operand->Value),ρ x=u->ρ y=v->(execOp ρ ⟨dst,op,ty,pos,after,guard⟩).run P w= .ok (.value r) w)(k:EvK P n ops l (c7 L dst (.v r) []) ob (λrecs=>kf<|⟨dst,gu++cm [(x,.v u),(y,.v v)],.v r,[],.pure⟩::recs)):EvK P n ops (⟨dst,op,ty,pos,after,guard⟩::l) L ob kf:=cY (o:=⟨dst,op,ty,pos,after,guard⟩) [(x,.v u),(y,.v v)] ⟨hx,hy,trivial⟩ hg hn (λm γ w a _ h1=>by obtain⟨h2,h3,_⟩:=h1;simp only[Rep]at h2 h3;exact⟨r,h w a.eval h2 h3,by simp[Rep]⟩) k
theorem j9{m:Mem}{γ:Gam}: ∀{vs xs:List Value},aB m γ (vs.map .v) xs->xs=vs
 |[],xs,h=>by simpa [aB]using h
 |v::vs,xs,h=>by simp only[af9,aB,Rep]at h;obtain⟨x,r,rfl,rfl,h3⟩:=h;rw[j9 h3]
def gG:lXF->Option (List Value)
 |[]=>some []
 | .v x::r=>match gG r with
  |some xs=>some (x::xs)
  |none=>none
 |_::_=>none
theorem jq: ∀{cs:lXF}{vs:List Value},gG cs=some vs->cs=vs.map .v
 |[],vs,h=>by grind[gG]
 |c::cs,vs,h=>by
  cases c<;>simp only[gG]at h<;>first|(cases h;done)|skip
  cases hr:gG cs with
  |none=>simp[hr]at h
  |some xs=>simp only[hr,afM]at h;subst h;simp[jq hr]
theorem aan{t:TypeId}{d:TypeId×Nat×Nat}(h:slk P t=some d)(_ts:Array TypeId)(w:World)(a:Option Addr)(len cap:Nat):(Builtin.len_ #[t] ty #[.slice a len cap]).run P w= .ok (.int .i64 len) w:=by
 unfold slk at h;cases hu:P.underlying t with
 |none=>simp[hu]at h
 |some D=>
  cases D with
  |slice e=>simp[Builtin.len_,run_underlying hu,goInt]
  |_=>simp[hu]at h
theorem ke{t e:TypeId}{S B:Nat}(h:slk P t=some (e,S,B)):P.underlying t=some (.slice e)/\ ∃i,P.info? e=some i/\i.size=S/\i.bytes=B:=by grind[slk]
def sM:AV->Option Nat
 | .sl _ rows=>some rows.length
 | .sr _ _ _ len=>some len
 | .v (.slice _ len cap)=>cond (Nat.ble len cap) (some len) none
 |_=>none
theorem acX{x:Operand}{t:TypeId}{d:TypeId×Nat×Nat}{av:AV}{k:Nat}(ht:slk P t=some d)(hx:aZ L x=some av)(hk:match av with| .sl _ rows=>rows.length=k| .sr _ _ _ len=>len=k| .v (.slice _ len _)=>len=k|_=>False)
  (hg:Gd ops L guard gu) (hn: ∀d,dst=some d->d<n)
  (kk:EvK P n ops l (c7 L dst (.v<|.int .i64 k) []) ob (λrecs=>kf<|⟨dst,gu++cm [(x,av)],.v (.int .i64 k),[],.pure⟩::recs)):
  EvK P n ops (⟨dst,.call ⟨.builtin .len,#[x],#[t]⟩,ty,pos,after,guard⟩::l) L ob kf:=
 cY (o:=⟨dst,.call ⟨.builtin .len,#[x],#[t]⟩,ty,pos,after,guard⟩) [(x,av)] ⟨hx,trivial⟩ hg hn (λm γ w a _ h=>by
  have h1:=h.1;have key: ∃b c,a.eval x= .slice b k c:=by
   cases av with
   |sl S rows=>grind[Rep]
   |sr o S lo len=>grind[Rep]
   |v y=>
    simp only[Rep]at h1;cases y<;>first|exact hk.elim|skip
    simp_all
   |_=>exact hk.elim
  obtain⟨b,c,e⟩:=key;refine⟨.int .i64 k,?_,by simp[Rep]⟩;have:=aan (ty:=ty) ht #[t] w b k c;simp_all[execOp,resolve,invoke,builtin]) kk
theorem tM{t e:TypeId}{S B:Nat}(h:slk P t=some (e,S,B))(w:World)(b off len cap:Nat)(q:IntKind)(i:Nat)(hi:i<len):(Instr.indexAt t (.slice (some ⟨b,off,none⟩) len cap)<|.int q i).run P w= .ok (.pointer<|some ⟨b,off+i*S,none⟩) w:=by
 obtain⟨hu,inf,h1,h2,_⟩:=ke h;have hc:(0:Int)<=(i:Int)/\(i:Int)<(len:Int):=by omega
 simp only[Instr.indexAt,asIntOf,Sem.run_bind,Sem.run_pure,Result.andThen_ok,run_underlying hu];simp_all[sizeOf,typeInfo,fN]
section
variable{x i:Operand}{t e:TypeId}
theorem uw{S B:Nat}{rows:List lXF}{row:lXF}{q:IntKind}{z:Int}(ht:slk P t=some (e,S,B))(hx:aZ L x=some (.sl S rows))(hi:aZ L i=some (.v<|.int q z))(hz:0<=z)(hr:rows[z.toNat]? =some row)(hg:Gd ops L guard gu)(hn: ∀d,dst=some d->d<n)(kk:EvK P n ops l (c7 L dst (.pf row) []) ob (λrecs=>kf<|⟨dst,gu++cm [(x,.sl S rows),(i,.v (.int q z))],.pf row,[],.pure⟩::recs)):EvK P n ops (⟨dst,.indexAddr t x i,ty,pos,after,guard⟩::l) L ob kf:=
 cY (o:=⟨dst,.indexAddr t x i,ty,pos,after,guard⟩) [(x,.sl S rows),(i,.v (.int q z))] ⟨hx,hi,trivial⟩ hg hn (λm γ w a _ h=>by
  obtain⟨h1,h2,_⟩:=h;simp only[Rep]at h1 h2;obtain⟨ad,len,cap,e1,e2,e3,e4⟩:=h1;have hlt:z.toNat<rows.length:=(afR.1 hr).1;obtain⟨b,off,rfl,e5⟩:=e4.resolve_left (λhc=>by rw[hc]at hlt;simp at hlt);have:=tM ht w b off len cap q z.toNat oaa;rw[Int.toNat_of_nonneg hz]at this;refine⟨.pointer (some ⟨b,off+z.toNat*S,none⟩),?_,?_⟩
  ·grind[execOp,Sem.run_bind,Result.andThen_ok,Sem.run_pure]
  ·simp only[Rep];exact⟨b,_,rfl,(jm e5 _ _ hr).2⟩) kk
theorem ux{S B o lo len:Nat}{q:IntKind}{z:Int}(ht:slk P t=some (e,S,B))(hx:aZ L x=some (.sr o S lo len))(hi:aZ L i=some (.v<|.int q z))(hz:0<=z)(hr:z<len)(hg:Gd ops L guard gu)(hn: ∀d,dst=some d->d<n)(kk:EvK P n ops l (c7 L dst (.pt o<|lo*S+z.toNat*S) []) ob (λrecs=>kf<|⟨dst,gu++cm [(x,.sr o S lo len),(i,.v (.int q z))],.pt o (lo*S+z.toNat*S),[],.pure⟩::recs)):EvK P n ops (⟨dst,.indexAddr t x i,ty,pos,after,guard⟩::l) L ob kf:=
 cY (o:=⟨dst,.indexAddr t x i,ty,pos,after,guard⟩) [(x,.sr o S lo len),(i,.v (.int q z))] ⟨hx,hi,trivial⟩ hg hn (λm γ w a _ h=>by
  obtain⟨h1,h2,_⟩:=h;simp only[Rep]at h1 h2;rcases h1 with⟨_,_,_,e⟩|⟨b,C,cap,g1,g2,_,_,(g3|⟨e,_⟩)⟩
  ·omega
  rotate_left
  ·omega
  ·have:=tM ht w b (lo*S) len cap q z.toNat oaa;rw[Int.toNat_of_nonneg hz]at this;simp_all[execOp,Rep]) kk
end
inductive Bd(L:Loc)(d:Nat):Option Operand->Nat->List (Operand×AV)->Prop
 |non:Bd L d none d []
 |num {x:Operand} {q:IntKind} {z:Int} (hx:aZ L x=some (.v<|.int q z)) (hz:0<=z):Bd L d (some x) z.toNat [(x,.v (.int q z))]
section
variable{L:Loc}{d:Nat}{x:Option Operand}{k:Nat}{xs:List (Operand×AV)}
theorem kg(h:Bd L d x k xs){ys:List (Operand×AV)}(hy:eZ L ys):eZ L (xs++ys):=by
 cases h with
 |non=>exact hy
 |num hx _=>exact⟨hx,hy⟩
theorem kh(h:Bd L d x k xs){m:Mem}{γ:Gam}{a:Act}{ys:List (Operand×AV)}(hr:iw m γ a (xs++ys)):((x=none/\k=d)\/ ∃o q,x=some o/\a.eval o= .int q (k:Int))/\iw m γ a ys:=by
 cases h with
 |non=>exact⟨.inl ⟨rfl,rfl⟩,hr⟩
 |num hx hz=>obtain⟨h1,h2⟩:=hr;simp only[Rep]at h1;exact⟨oaI,h2⟩
end
theorem iU(w:World)(q:IntKind)(k y:Nat)(code:BoundsCode)(h:k<=y):(Instr.sliceBound (.int q k) y code).run P w= .ok k w:=by grind[run_sliceBound]
theorem lK{t e:TypeId}{S B:Nat}(h:slk P t=some (e,S,B))(w:World)(ad:Option Addr)(len cap l hh mx:Nat)(lo hi mo:Option Value)
  (hlo:(lo=none/\l=0)\/ ∃q,lo=some (.int q (l:Int))) (hhi:(hi=none/\hh=len/\mo=none)\/ ∃q,hi=some (.int q (hh:Int))) (hmo:(mo=none/\mx=cap)\/ ∃q,mo=some (.int q (mx:Int))) (h1:l<=hh) (h2:hh<=mx) (h3:mx<=cap):
  (Instr.sliceAt t (.slice ad len cap) lo hi mo).run P w= .ok (.slice (if mx=l then ad else ad.map (·.add<|l*S)) (hh-l)<|mx-l) w:=by
 obtain⟨hu,inf,g1,g2,_⟩:=ke h;have hsz:(sizeOf e).run P w= .ok S w:=by simp[sizeOf,typeInfo,g1,g2]
 have key:(Instr.sliceBounds true len cap lo hi mo).run P w= .ok (l,hh,mx) w:=by
  rcases hmo with⟨rfl,rfl⟩|⟨qm,rfl⟩
  ·rcases hhi with⟨rfl,rfl,_⟩|⟨qh,rfl⟩
   ·rcases hlo with⟨rfl,rfl⟩|⟨ql,rfl⟩
    ·simp[Instr.sliceBounds]
    simp_all[Instr.sliceBounds,iU]
   ·rcases hlo with⟨rfl,rfl⟩|⟨ql,rfl⟩
    ·simp_all[Instr.sliceBounds,iU]
    simp_all[Instr.sliceBounds,iU]
  ·rcases hhi with⟨rfl,rfl,hc⟩|⟨qh,rfl⟩
   ·cases hc
   ·rcases hlo with⟨rfl,rfl⟩|⟨ql,rfl⟩
    ·simp_all[Instr.sliceBounds,iU]
    simp_all[Instr.sliceBounds,iU]
 simp_all[Instr.sliceAt,run_underlying,Instr.slice]
theorem Ff{x:Operand}{lo hi:Option Operand}{t e:TypeId}{S B:Nat}{rows:List lXF}{p q:Nat}{xl xh:List (Operand×AV)}(ht:slk P t=some (e,S,B))(hx:aZ L x=some (.sl S rows))(hl:Bd L 0 lo p xl)(hh:Bd L rows.length hi q xh)(h1:p<=q)(h2:q<=rows.length)(hg:Gd ops L guard gu)(hn: ∀d,dst=some d->d<n)(kk:EvK P n ops l (c7 L dst (.sl S<|(rows.drop p).take<|q-p) []) ob (λrecs=>kf<|⟨dst,gu++cm (xl++(xh++ [(x,.sl S rows)])),.sl S ((rows.drop p).take<|q-p),[],.pure⟩::recs)):EvK P n ops (⟨dst,.slice t x lo hi none,ty,pos,after,guard⟩::l) L ob kf:=
 cY (o:=⟨dst,.slice t x lo hi none,ty,pos,after,guard⟩) (xl++(xh++ [(x,.sl S rows)])) (kg hl<|kg hh ⟨hx,trivial⟩) hg hn (λm γ w a _ h=>by
  obtain⟨k1,h⟩:=kh hl h;obtain⟨k2,h⟩:=kh hh h;have h5:=h.1;simp only[Rep]at h5;obtain⟨ad,len,cap,e1,e2,e3,e4⟩:=h5;subst e2;have hr:=lK (P:=P) ht w ad rows.length cap p q cap (lo.map a.eval) (hi.map a.eval) none (by
   rcases k1 with⟨rfl,rfl⟩|⟨o,q',rfl,hq⟩
   ·exact .inl ⟨rfl,rfl⟩
   ·exact .inr ⟨q',by simp[hq]⟩) (by
   rcases k2 with⟨rfl,rfl⟩|⟨o,q',rfl,hq⟩
   ·exact .inl ⟨rfl,rfl,rfl⟩
   ·exact .inr ⟨q',by simp[hq]⟩) (.inl ⟨rfl,rfl⟩) h1 oaa (afP _)
  refine⟨_,by simp only[execOp,e1,Option.map_none,Sem.run_bind,hr,Result.andThen_ok,Sem.run_pure];rfl,?_⟩;simp only[Rep];refine⟨_,_,_,rfl,by simp;omega,by omega,?_⟩;by_cases hpq:p=q
  ·left;subst hpq;simp
  ·right;have hne:rows≠ []:=by intro hc;subst hc;simp at h2;omega
   obtain⟨b,off,rfl,e5⟩:=e4.resolve_left hne;refine⟨b,off+p*S,?_,jO (jN e5 p) _⟩;rw[if_neg oaa];simp[fN]) kk
theorem tO{x:Operand}{lo hi mo:Option Operand}{t e:TypeId}{S B o l0 len:Nat}{p q mx:Nat}{xl xh xm:List (Operand×AV)}(ht:slk P t=some (e,S,B))(hx:aZ L x=some (.sr o S l0 len))(hl:Bd L 0 lo p xl)(hh:Bd L len hi q xh)(hm:Bd L 0 mo mx xm)(h1:p<=q)(h2:q<=len)(h3:mo=none\/((∃h,hi=some h)/\q<=mx/\mx<=len/\(mx≠p\/l0+p≠0)))(hg:Gd ops L guard gu)(hn: ∀d,dst=some d->d<n)(kk:EvK P n ops l (c7 L dst (.sr o S (l0+p)<|q-p) []) ob (λrecs=>kf<|⟨dst,gu++cm (xl++(xh++(xm++ [(x,.sr o S l0 len)]))),.sr o S (l0+p) (q-p),[],.pure⟩::recs)):EvK P n ops (⟨dst,.slice t x lo hi mo,ty,pos,after,guard⟩::l) L ob kf:=
 cY (o:=⟨dst,.slice t x lo hi mo,ty,pos,after,guard⟩) (xl++(xh++(xm++ [(x,.sr o S l0 len)]))) (kg hl<|kg hh<|kg hm ⟨hx,trivial⟩) hg hn (λm γ w a _ h=>by
  obtain⟨k1,h⟩:=kh hl h;obtain⟨k2,h⟩:=kh hh h;obtain⟨k3,h⟩:=kh hm h;have h5:=h.1;have hb1:(lo.map a.eval=none/\p=0)\/ ∃q,lo.map a.eval=some (.int q (p:Int)):=by
   rcases k1 with⟨rfl,rfl⟩|⟨o,q',rfl,hq⟩
   ·exact .inl ⟨rfl,rfl⟩
   ·exact .inr ⟨q',by simp[hq]⟩
  have hb2:(hi.map a.eval=none/\q=len/\mo.map a.eval=none)\/ ∃q',hi.map a.eval=some (.int q' (q:Int)):=by
   rcases k2 with⟨rfl,rfl⟩|⟨o,q',rfl,hq⟩
   ·rcases h3 with rfl|⟨⟨h,hh⟩,_⟩
    ·exact .inl ⟨rfl,rfl,rfl⟩
    ·cases hh
   ·exact .inr ⟨q',by simp[hq]⟩
  have hb3: ∀cap,len<=cap-> ∃mx',((mo.map a.eval=none/\mx'=cap)\/ ∃q,mo.map a.eval=some (.int q (mx':Int)))/\q<=mx'/\mx'<=cap/\(mx' ≠p\/l0+p≠0\/p=0)/\(mo=none\/mx'<=len):=by
   intro cap hc;rcases k3 with⟨rfl,_⟩|⟨o,q',rfl,hq⟩
   ·exact⟨cap,.inl ⟨rfl,rfl⟩,by omega,afP _,by omega,.inl rfl⟩
   ·rcases h3 with hc2|⟨_,g1,g2,g3⟩
    ·cases hc2
    ·exact⟨mx,.inr ⟨q',by simp[hq]⟩,g1,by omega,by omega,.inr g2⟩
  simp only[Rep]at h5;rcases h5 with⟨g1,⟨ad,g2⟩,g3,g4⟩|⟨b,C,cap,g1,g2,g3,g4,g5⟩
  ·subst g4;subst g3;obtain rfl:q=0:=by omega
   obtain rfl:p=0:=by omega
   obtain⟨mx',m1,m2,m3,m4,m5⟩:=hb3 0 oaa;obtain rfl:mx'=0:=by omega
   have hr:=lK (P:=P) ht w ad 0 0 0 0 0 (lo.map a.eval) (hi.map a.eval) (mo.map a.eval) hb1 hb2 m1 h1 oaa (afP _);exact⟨_,by simp only[execOp,g2,Sem.run_bind,hr,Result.andThen_ok,Sem.run_pure];rfl,by simp[Rep,g1]⟩
  ·obtain⟨mx',m1,m2,m3,m4,m5⟩:=hb3 cap g3;have key: ∀ad,a.eval x= .slice ad len cap->(Instr.sliceAt t (a.eval x) (lo.map a.eval) (hi.map a.eval)<|mo.map a.eval).run P w= .ok (.slice (if mx'=p then ad else ad.map (·.add<|p*S)) (q-p)<|mx' -p) w:=by intro ad e;rw[e];exact lK (P:=P) ht w ad len cap p q mx' (lo.map a.eval) (hi.map a.eval) (mo.map a.eval) hb1 hb2 m1 h1 m2 m3
   rcases g5 with g5|⟨g6,g7,ad,g5⟩
   ·refine⟨_,by simp only[execOp,Sem.run_bind,key _ g5,Result.andThen_ok,Sem.run_pure];rfl,?_⟩;simp only[Rep];refine .inr ⟨b,C,mx' -p,g1,by omega,by omega,by omega,?_⟩;by_cases hmp:mx'=p
    ·rw[if_pos hmp];by_cases hp0:p=0
     ·left;subst hp0;rw[Nat.add_zero]
     ·right;exact⟨by omega,by omega,_,by rw[show q-p=0 from by omega]⟩
    ·rw[if_neg hmp];left;simp only[af6,fN,agF]
   ·subst g6;obtain rfl:q=0:=by omega
    obtain rfl:p=0:=by omega
    refine⟨_,by simp only[execOp,Sem.run_bind,key _ g5,Result.andThen_ok,Sem.run_pure];rfl,?_⟩;simp only[Rep];exact .inr ⟨b,C,mx' -0,g1,by omega,by omega,by omega,.inr ⟨by simp,by omega,_,by rfl⟩⟩) kk
end
def AV.one:AV->Bool
 | .any=>false
 | .v (.agg _)=>false
 | .v (.tuple _)=>false
 | .ag _=>false
 | .tu _=>false
 |_=>true
def fV:AV->Option lXF
 | .ag cs=>cond (cs.all AV.one) (some cs) none
 |av=>cond av.one (some [av]) none
theorem LJ{m:Mem}{γ:Gam}{av:AV}{x:Value}(h:Rep m γ av x)(h1:av.one=true):x.oneCell'=true/\x.cells= #[x]:=by
 cases av with
 |any=>simp[AV.one]at h1
 |v y=>simp only[Rep]at h;subst h;cases x<;>simp_all[AV.one,Value.oneCell',Value.cells]
 |sl S rows=>simp only[Rep]at h;obtain⟨a,len,cap,rfl,_⟩:=h;exact⟨rfl,rfl⟩
 |ag cs=>simp[AV.one]at h1
 |tu cs=>simp[AV.one]at h1
 |pt o off=>simp only[Rep]at h;obtain⟨b,C,_,rfl⟩:=h;exact⟨rfl,rfl⟩
 |pf cs=>simp only[Rep]at h;obtain⟨b,C,rfl,_⟩:=h;exact⟨rfl,rfl⟩
 |sr o S lo len=>simp only[Rep]at h;rcases h with⟨_,⟨ad,rfl⟩,_⟩|⟨b,C,cap,_,_,_,_,(rfl|⟨_,_,ad,rfl⟩)⟩<;>exact⟨rfl,rfl⟩
 |fn f fs cs=>simp only[Rep]at h;obtain⟨b,C,rfl,_⟩:=h;exact⟨rfl,rfl⟩
 |ifc t y=>simp only[Rep]at h;obtain⟨z,rfl,_⟩:=h;exact⟨rfl,rfl⟩
 |mp o=>simp only[Rep]at h;obtain⟨b,C,_,rfl⟩:=h;exact⟨rfl,rfl⟩
 |yl o=>simp only[Rep]at h;obtain⟨b,C,_,rfl⟩:=h;exact⟨rfl,rfl⟩
 |cl S rows=>simp only[Rep]at h;obtain⟨a,len,rfl,_⟩:=h;exact⟨rfl,rfl⟩
def ny{m:Mem}{γ:Gam}: ∀{cs:lXF}{xs:List Value},aB m γ cs xs->cs.all AV.one=true-> ∀u∈xs,u.oneCell'=true
 |[],xs,h,_,u,hu=>by grind[aB]
 |c::cs,xs,h,h1,u,hu=>by
  simp only[aB]at h;obtain⟨x,r,rfl,h2,h3⟩:=h;simp only[aha,afJ]at h1;cases agq.1 hu with
  |inl e=>subst e;exact(LJ h2 h1.1).1
  |inr e=>exact ny h3 h1.2 u e
def iV{m:Mem}{γ:Gam}{av:AV}{x:Value}{cs:lXF}(h:Rep m γ av x)(hc:fV av=some cs):aB m γ cs x.cells.toList/\cs.all AV.one=true:=by
 have one: ∀(b:AV),b.one=true->Rep m γ b x->aB m γ [b] x.cells.toList/\[b].all AV.one=true:=by intro b hb hr;refine⟨?_,by simp[hb]⟩;rw[(LJ hr hb).2];grind[aB]
 cases av with
 |ag ds=>grind[fV,Rep,Value.cells]
 |v y=>grind[fV]
 |any=>grind[fV]
 |tu cs=>grind[fV]
 |_=>grind[fV]
def fj(cells:lXF)(off:Nat)(cs:lXF):lXF:=cells.take off++cs++cells.drop (off+cs.length)
def spl:lXF->Nat->lXF->lXF
 |c::r,off+1,cs=>c::spl r off cs
 |_::r,0,d::ds=>d::spl r 0 ds
 |cells,_,_=>cells
theorem CT: ∀{cells:lXF}{off:Nat}{cs:lXF},off+cs.length<=cells.length->spl cells off cs=fj cells off cs
 |[],off,cs,h=>by simp_all[spl,fj]
 |c::r,off+1,cs,h=>by simp only[agb]at h;rw[spl,CT oaa];simp[fj,show off+1+cs.length=off+cs.length+1 from by omega]
 |c::r,0,[],h=>by simp[spl,fj]
 |c::r,0,d::ds,h=>by simp only[agb]at h;rw[spl,CT oaa];simp[fj]
def e8(γ:Gam)(o b C:Nat):Gam:=λk=>if k=o then some (some (b,C))else γ k
section
variable{P:Program}{m:Mem}{γ:Gam}{ob:lXE}{w:World}
theorem gy(hi:Inv m γ ob w)(b C:Nat):Le m γ [] m (e8 γ ob.length b C):=by refine⟨λ_ _ h=>h,λo g hg _=> ?_⟩;have:=hi.len o oaL;simp[e8,hg,show o≠ob.length by omega]
section
variable{m':Mem}{γ':Gam}
def vd(h:Le m γ [] m' γ'){av:AV}{x:Value}(hr:Rep m γ av x):Rep m' γ' av x:=gg h av x (AV.eX av) hr
def ix(h:Le m γ [] m' γ'){cs:lXF}{xs:List Value}(hr:aB m γ cs xs):aB m' γ' cs xs:=dR h cs xs (dm cs) hr
theorem fP{w':World}{o:Nat}{X:Ob}(h:iL m γ w o X)(hle:Le m γ [] m' γ')(hheap: ∀b C,γ o=some (some (b,C))->w'.heap[b]? =w.heap[b]?)(hm: ∀b C,γ o=some (some (b,C))-> ∀off,m ⟨b,off,none⟩=none->m' ⟨b,off,none⟩=none):iL m' γ' w' o X:=by
 cases X with
 |dead=>trivial
 |box T cells=>obtain⟨b,cs,h1,h2,h3,h4⟩:=h;exact⟨b,cs,hle.gam o _ h1 rfl,by rw[hheap b 0 h1];exact h2,ix hle h3,λoff=>hm b 0 h1 off (h4 off)⟩
 |row T S rows=>
  rcases h with⟨h1,h2⟩|⟨b,C,cs,h1,h2,h3,h4,h5,h6,h7,h8⟩
  ·exact .inl ⟨hle.gam o _ h1 rfl,h2⟩
  ·exact .inr ⟨b,C,cs,hle.gam o _ h1 rfl,h2.of_eq (hheap b C h1),h3,h4,h5,h6,ix hle h7,λoff=>hm b C h1 off (h8 off)⟩
 |mp keys vals=>obtain⟨b,es,clock,h1,h2,h3,h4,h5⟩:=h;exact⟨b,es,clock,hle.gam o _ h1 rfl,by rw[hheap b 0 h1];exact h2,h3,ix hle h4,λoff=>hm b 0 h1 off (h5 off)⟩
 |lp busy k ts cs=>obtain⟨b,r,xs,h1,h2,h3,h4,h5,h6⟩:=h;exact⟨b,r,xs,hle.gam o _ h1 rfl,by rw[hheap b 0 h1];exact h2,h3,ix hle h4,h5,λoff=>hm b 0 h1 off (h6 off)⟩
end
def alloc_old(w:World)(o:Obj){k:Nat}(h:k<w.heap.size):(w.alloc o).heap[k]? =w.heap[k]? :=heap_alloc_old w o h
theorem Bp(hi:Inv m γ ob w)(o:Obj)(a:Addr)(x:Value)(h:m a=some x):(w.alloc o).cell? a=some x:=by have h1:=hi.mem a x h;grind[World.cell?_alloc_lt,World.block_lt_of_cell?]
theorem jV(hi:Inv m γ ob w){b:Nat}(hb:w.heap.size<=b)(off:Nat):m ⟨b,off,none⟩=none:=by
 cases h:m ⟨b,off,none⟩with
 |none=>rfl
 |some x=>have:=World.block_lt_of_cell? w _ (hi.mem _ _ h);simp at this;omega
theorem ov(hi:Inv m γ ob w)(O:Obj)(C:Nat)(X:Ob)(hX:iL m (e8 γ ob.length w.heap.size C) (w.alloc O) ob.length X):Inv m (e8 γ ob.length w.heap.size C) (ob++ [X]) (w.alloc O)/\Trans m γ w m (e8 γ ob.length w.heap.size C) (w.alloc O):=by
 have hold: ∀o,o<ob.length->e8 γ ob.length w.heap.size C o=γ o:=λo ho=>by simp[e8,show o≠ob.length by omega]
 have hlv: ∀o,live (ob++ [X]) o->o<ob.length->live ob o:=by rintro o ⟨Y,hY,hne⟩ ho;rw[afZ ho]at hY;exact⟨Y,hY,hne⟩
 have hlt: ∀o,live (ob++ [X]) o->o<=ob.length:=by rintro o ⟨Y,hY,_⟩;grind
 refine⟨⟨Bp hi O,λo Y hY=> ?_,λo o' b D D' h1 h2 h3 h4=> ?_,λo b D h=> ?_,λo ho=> ?_⟩,?_⟩
 ·by_cases ho:o<ob.length
  ·rw[afZ ho]at hY;exact fP (hi.obj o Y hY) (gy hi _ _) (λb D hb=>alloc_old w O<|hi.dom o b D hb) (λ_ _ _ _ h=>h)
  grind
 ·have a1:=hlt o h1;have a2:=hlt o' h2;by_cases e1:o=ob.length
  ·by_cases e2:o'=ob.length
   ·rw[e1,e2]
   ·rw[hold o' oaa]at h4;rw[e1]at h3;simp only[e8,agX,afM,af7]at h3;have:=hi.dom _ _ _ h4;omega
  ·rw[hold o oaa]at h3;by_cases e2:o'=ob.length
   ·rw[e2]at h4;simp only[e8,agX,afM,af7]at h4;have:=hi.dom _ _ _ h3;omega
   ·rw[hold o' oaa]at h4;exact hi.sep o o' b D D' (hlv o h1 oaa) (hlv o' h2 oaa) h3 h4
 ·simp only[World.size_alloc];by_cases e:o=ob.length
  ·grind[e8]
  ·simp only[e8,e,if_false]at h;have:=hi.dom _ _ _ h;omega
 ·by_cases e:o=ob.length
  ·simp[e]
  ·simp only[e8,e,if_false]at ho;have:=hi.len o ho;simp;omega
 ·refine⟨λ_ _ h=>h,λ_ _ h=> .inl h,?_,rfl,rfl,rfl,by simp,λk hk _=>alloc_old w O hk⟩;rintro k hk ⟨o,D,h⟩;by_cases e:o=ob.length
  ·grind[e8]
  ·simp only[e8,e,if_false]at h;exact⟨o,D,h⟩
theorem v7(hi:Inv m γ ob w)(T:TypeId){cells:lXF}{cs:Array Value}(hr:aB m γ cells cs.toList):Inv m (e8 γ ob.length w.heap.size 0) (ob++ [.box T cells]) (w.alloc<|.cells cs T)/\Trans m γ w m (e8 γ ob.length w.heap.size 0) (w.alloc<|.cells cs T):=by refine ov hi _ 0 _ ⟨w.heap.size,cs,by simp[e8],heap_alloc_new w _,ix (gy hi _ _) hr,λoff=>jV hi (afP _) off⟩
end
section
variable{P:Program}{n:Nat}{ops:Array Oper}{l:List Oper}{L:Loc}{ob:lXE}{kf:List Rec->Loc->lXE->Prop}{gu:Loc}
variable{dst:Option Nat}{ty:TypeId}{pos:String}{after:Array Edge}{guard:Option (Nat×Bool)}
theorem fk{m:Mem}{γ:Gam}: ∀(vs:List Value),aB m γ (vs.map .v) vs
 |[]=>by simp[aB]
 |v::vs=>by simp only[af9,aB,Rep];exact⟨v,vs,rfl,rfl,fk vs⟩
theorem Sw{T:TypeId}{zs:List Value}(N:Nat)(ob1:lXE)(hz:zer P T=some zs)(hN:ob.length=N)(hob:ob++ [.box T (zs.map .v)]=ob1)(hg:Gd ops L guard gu)(hn: ∀d,dst=some d->d<n)(kk:EvK P n ops l (c7 L dst (.pt N 0) []) ob1 (λrecs=>kf (⟨dst,gu++cm [],.pt N 0,[],.write⟩::recs))):EvK P n ops (⟨dst,.alloc T,ty,pos,after,guard⟩::l) L ob kf:=
 by
 subst hN;subst hob;exact jP (o:=⟨dst,.alloc T,ty,pos,after,guard⟩) [] [] trivial hg hn (λm γ w a K Q hi _ hK=>by
  unfold zer at hz;cases hinf:P.info? T with
  |none=>simp[hinf]at hz
  |some i=>
   simp only[hinf]at hz;cases hzz:i.zero with
   |none=>simp[hzz]at hz
   |some z=>
    simp only[hzz,af6,afM]at hz;subst hz;obtain⟨h1,h2⟩:=v7 hi T (cells:=z.cells.toList.map .v) (cs:=z.cells) (fk _);have hrun:(execOp a.eval ⟨dst,.alloc T,ty,pos,after,guard⟩).run P w= .ok (.value<|.pointer<|some ⟨w.heap.size,0,none⟩) (w.alloc<|.cells z.cells T):=by simp_all[execOp,Instr.alloc,zeroValue,typeInfo,newVar,newRow]
    unfold Oper.wp;rw[hrun,Oper.upon_value];exact hK _ _ _ _ h2 (gy hi _ _) h1<|by grind[Rep,e8]) kk
theorem acY{T:TypeId}{x:Operand}{av:AV}{cs:lXF}(N:Nat)(ob1:lXE)(hx:aZ L x=some av)(hc:fV av=some cs)(hN:ob.length=N)(hob:ob++ [.box T cs]=ob1)(hg:Gd ops L guard gu)(hn: ∀d,dst=some d->d<n)(kk:EvK P n ops l (c7 L dst (.pt N 0) []) ob1 (λrecs=>kf<|⟨dst,gu++cm [(x,av)],.pt N 0,[],.write⟩::recs)):EvK P n ops (⟨dst,.box T x,ty,pos,after,guard⟩::l) L ob kf:=
 by
 subst hN;subst hob;exact jP (o:=⟨dst,.box T x,ty,pos,after,guard⟩) [] [(x,av)] ⟨hx,trivial⟩ hg hn (λm γ w a K Q hi h hK=>by
  obtain⟨h1,h2⟩:=v7 hi T (iV h.1 hc).1;have hrun:(execOp a.eval ⟨dst,.box T x,ty,pos,after,guard⟩).run P w= .ok (.value<|.pointer<|some ⟨w.heap.size,0,none⟩) (w.alloc<|.cells (a.eval x).cells T):=by rfl
  unfold Oper.wp;rw[hrun,Oper.upon_value];exact hK _ _ _ _ h2 (gy hi _ _) h1<|by grind[Rep,e8]) kk
end
def jr(ks:lXC)(c:AV):AV:=cond (c.free ks) c .any
def mr(ks:lXC):Ob->Ob
 | .dead=> .dead
 | .box T cells=> .box T (cells.map<|jr ks)
 | .row T S rows=> .row T S (rows.map λr=>r.map<|jr ks)
 | .mp keys vals=> .mp keys (vals.map<|jr ks)
 | .lp busy k ts cs=> .lp busy k ts (cs.map<|jr ks)
def CU{m m':Mem}{γ γ':Gam}{ks:lXC}(h:Le m γ ks m' γ'){c:AV}{x:Value}(hr:Rep m γ c x):Rep m' γ' (jr ks c) x:=by grind[jr,gg,Rep]
theorem gz{m m':Mem}{γ γ':Gam}{ks:lXC}(h:Le m γ ks m' γ'): ∀{cs:lXF}{xs:List Value},aB m γ cs xs->aB m' γ' (cs.map<|jr ks) xs
 |[],xs,hr=>by simpa [aB]using hr
 |c::cs,xs,hr=>by simp only[aB]at hr;obtain⟨x,r,rfl,h2,h3⟩:=hr;simp only[af9,aB];exact⟨x,r,rfl,CU h h2,gz h h3⟩
def LK{m m':Mem}{γ γ':Gam}{w w':World}{ks:lXC}{o:Nat}{X:Ob}(h:iL m γ w o X)(hle:Le m γ ks m' γ')(hk:ks.contains o=false)(hheap: ∀b C,γ o=some (some (b,C))->w'.heap[b]? =w.heap[b]?)(hm: ∀b C,γ o=some (some (b,C))-> ∀off,m ⟨b,off,none⟩=none->m' ⟨b,off,none⟩=none):iL m' γ' w' o (mr ks X):=by
 cases X with
 |dead=>trivial
 |box T cells=>obtain⟨b,cs,h1,h2,h3,h4⟩:=h;exact⟨b,cs,hle.gam o _ h1 hk,by rw[hheap b 0 h1];exact h2,gz hle h3,λoff=>hm b 0 h1 off (h4 off)⟩
 |row T S rows=>
  rcases h with⟨h1,h2⟩|⟨b,C,cs,h1,h2,h3,h4,h5,h6,h7,h8⟩
  ·exact .inl ⟨hle.gam o _ h1 hk,by subst h2;rfl⟩
  ·refine .inr ⟨b,C,cs,hle.gam o _ h1 hk,h2.of_eq (hheap b C h1),h3,by simpa using h4,h5,?_,?_,λoff=>hm b C h1 off (h8 off)⟩
   ·simp_all
   grind[gz]
 |mp keys vals=>obtain⟨b,es,clock,h1,h2,h3,h4,h5⟩:=h;exact⟨b,es,clock,hle.gam o _ h1 hk,by rw[hheap b 0 h1];exact h2,h3,gz hle h4,λoff=>hm b 0 h1 off (h5 off)⟩
 |lp busy k ts cs=>obtain⟨b,r,xs,h1,h2,h3,h4,h5,h6⟩:=h;exact⟨b,r,xs,hle.gam o _ h1 hk,by rw[hheap b 0 h1];exact h2,h3,gz hle h4,h5,λoff=>hm b 0 h1 off (h6 off)⟩
theorem Le.refl(m:Mem)(γ:Gam)(ks:lXC):Le m γ ks m γ:=⟨λ_ _ h=>h,λ_ _ h _=>h⟩
section
variable{P:Program}{m:Mem}{γ:Gam}{ob:lXE}{w:World}
theorem Bq(hi:Inv m γ ob w){b:Nat}(hm: ∀off,m ⟨b,off,none⟩=none){a:Addr}{x:Value}(h:m a=some x):a.block≠b:=by intro e;have h1:=hi.mem a x h;have hs:=World.cell?_spot h1;obtain⟨bb,off,sp⟩:=a;simp_all
theorem qv(hi:Inv m γ ob w){o b C:Nat}{X X':Ob}(ho:ob[o]? =some X)(hX:X≠ .dead)(hg:γ o=some (some (b,C)))(hm: ∀off,m ⟨b,off,none⟩=none){w':World}(hother: ∀k,k≠b->w'.heap[k]? =w.heap[k]?)(hsz:w'.heap.size=w.heap.size)(hos:w'.os=w.os)(htape:w'.tape=w.tape)(hout:w'.output=w.output)(ks:lXC)(hX':iL m γ w' o X'):Inv m γ ((ob.map<|mr ks).set o X') w'/\Inv m γ (ob.set o X') w'/\Trans m γ w m γ w':=by
 have hlen:o<ob.length:=(afR.1 ho).1;have hlv: ∀(f:Ob->Ob),(∀Y,f Y= .dead↔Y= .dead)-> ∀k,live ((ob.map f).set o X') k->live ob k:=by
  rintro f hf k ⟨Y,hY,hne⟩;by_cases hko:o=k
  ·subst hko;exact⟨X,ho,hX⟩
  ·rw[af5 hko,afY]at hY;cases hk:ob[k]? with
   |none=>simp[hk]at hY
   |some Z=>rw[hk]at hY;simp only[af6,afM]at hY;exact⟨Z,hk,λe=>hne (by rw[<-hY];exact(hf Z).2 e)⟩
 have gen: ∀(f:Ob->Ob),(∀Y,f Y= .dead↔Y= .dead)->(∀k Y,ob[k]? =some Y->k≠o->iL m γ w' k (f Y))->Inv m γ ((ob.map f).set o X') w':=by
  intro f hf hob;refine⟨λa x h=> ?_,λk Y hY=> ?_,λk k' b D D' h1 h2=>hi.sep k k' b D D' (hlv f hf k h1) (hlv f hf k' h2),λk b D h=>by rw[hsz];exact hi.dom k b D h,λk h=>by simpa using hi.len k h⟩
  ·rw[World.cell?_of_block (hother _<|Bq hi hm h)];exact hi.mem a x h
  ·by_cases hko:o=k
   ·subst hko;rw[agi (by simpa using hlen)]at hY;cases hY;exact hX'
   ·rw[af5 hko,afY]at hY;cases hk:ob[k]? with
    |none=>simp[hk]at hY
    |some Z=>rw[hk]at hY;simp only[af6,afM]at hY;subst hY;exact hob k Z hk (λe=>hko e.symm)
 have heap: ∀k Y,ob[k]? =some Y->k≠o->Y≠ .dead-> ∀b' C',γ k=some (some (b',C'))->w'.heap[b']? =w.heap[b']? :=by intro k Y hk hko hYd b' C' hb;refine hother b' λe=> ?_;subst e;exact hko (hi.sep k o b' C' C ⟨Y,hk,hYd⟩ ⟨X,ho,hX⟩ hb hg)
 refine⟨gen (mr ks) (λY=>by cases Y<;>simp[mr]) ?_,?_,?_⟩
 ·intro k Y hk hko;by_cases hYd:Y= .dead
  ·subst hYd;trivial
  ·have h1:=hi.obj k Y hk;cases Y with
   |dead=>exact absurd rfl hYd
   |box T cells=>obtain⟨b',cs,g1,g2,g3,g4⟩:=h1;exact⟨b',cs,g1,by rw[heap k _ hk hko hYd b' 0 g1];exact g2,gz (Le.refl m γ ks) g3,g4⟩
   |row T S rows=>
    rcases h1 with⟨g1,g2⟩|⟨b',C',cs,g1,g2,g3,g4,g5,g6,g7,g8⟩
    ·exact .inl ⟨g1,by subst g2;rfl⟩
    ·refine .inr ⟨b',C',cs,g1,g2.of_eq (heap k _ hk hko hYd b' C' g1),g3,by simpa using g4,g5,?_,?_,g8⟩
     ·intro r hr;obtain⟨q,hq,rfl⟩:=agm.1 hr;simpa using g6 q hq
     ·have:=gz (Le.refl m γ ks) g7;rw[<-List.map_flatten];simpa using this
   |mp keys vals=>obtain⟨b',es,clock,g1,g2,g3,g4,g5⟩:=h1;exact⟨b',es,clock,g1,by rw[heap k _ hk hko hYd b' 0 g1];exact g2,g3,gz (Le.refl m γ ks) g4,g5⟩
   |lp busy kc ts cs=>obtain⟨b',r,xs,g1,g2,g3,g4,g5,g6⟩:=h1;exact⟨b',r,xs,g1,by rw[heap k _ hk hko hYd b' 0 g1];exact g2,g3,gz (Le.refl m γ ks) g4,g5,g6⟩
 ·have:=gen id (λY=>Iff.rfl) λk Y hk hko=>by
   by_cases hYd:Y= .dead
   ·subst hYd;trivial
   ·exact fP (hi.obj k Y hk) (Le.refl m γ []) (heap k Y hk hko hYd) (λ_ _ _ _ h=>h)
  simpa using this
 ·refine⟨λ_ _ h=>h,λ_ _ h=> .inl h,λ_ _ h=>h,hos,htape,hout,by omega,λk hk hn=>hother k λe=>hn ⟨o,C,by rw[e];exact hg⟩⟩
theorem nz{cells cs:lXF}{xs ys:List Value}{off:Nat}(h:aB m γ cells xs)(k:aB m γ cs ys):aB m γ (fj cells off cs) (xs.take off++ys++xs.drop (off+ys.length)):=by grind[aX,fj,cL,eg,eY]
theorem iy(P:Program)(g o:Nat)(t:TypeId)(fz:Nat×Nat): ∀(vs:List Value)(i:Nat)(cur:Array Value)(w:World),w.heap[g]? =some (.cells cur t fz)->(fz=(0,0)\/fz.1=cur.size)->o+i+vs.length<=cur.size->(∀v∈vs,v.oneCell'=true)->(storeCells ⟨g,o,none⟩ vs i).run P w= .ok () (w.setRow g (cur.toList.take (o+i)++vs++cur.toList.drop (o+i+vs.length)).toArray)
 |[],i,cur,w,hg,_,_,_=>by simp only[storeCells,agA,agt,Nat.add_zero,agG,Array.toArray_toList];rw[setRow_self w g cur t fz hg];rfl
 |v::rest,i,cur,w,hg,hfz,hl,h1=>by
  have hi:o+i<cur.size:=by simp at hl;omega
  have hadd:(⟨g,o,none⟩:Addr).add i=⟨g,o+i,none⟩:=by unfold Addr.add;split<;>simp_all
  have hcell:w.cell? ⟨g,o+i,none⟩=some cur[o+i]:=by simp[World.cell?,hg,hi]
  have hfro:w.frozen? ⟨g,o+i,none⟩=false:=by grind[World.frozen?]
  have hst:(store ((⟨g,o,none⟩:Addr).add i) v).run P w= .ok () (w.setRow g<|cur.setIfInBounds (o+i) v):=by grind[run_store,setCell_eq_setRow]
  have ih:=iy P g o t fz rest (i+1) (cur.setIfInBounds (o+i) v) (w.setRow g<|cur.setIfInBounds (o+i) v) (setRow_heap w g cur _ t _ hg) (by simpa using hfz) (by simp at hl⊢;omega) (λx hx=>h1 x<|by simp[hx]);simp only[storeCells,Sem.run_bind,hst,Result.andThen_ok,ih,setRow_setRow];congr 3;have e:=list_seg_step cur.toList (o+i) v rest (by simp at hl⊢;omega);simp_all[agO]
theorem CA.setRow{w:World}{b:Nat}{cur arr:Array Value}{T:TypeId}(h:CA w b cur T)(hs:arr.size=cur.size):CA (w.setRow b arr) b arr T:=by obtain⟨fr,h1,h2⟩:=h;exact⟨fr,setRow_heap w b cur arr T fr h1,h2.imp id λe=>e.trans hs.symm⟩
theorem qw{t:TypeId}{g:Bool}{k:Nat}(h:tyk P t=some (g,k)){b off:Nat}{cur:Array Value}{T:TypeId}(hg:CA w b cur T){x:Value}(hs:x.cells.size=k)(h1: ∀u∈x.cells.toList,u.oneCell'=true)(hfit:off+k<=cur.size):∃arr:Array Value,arr.toList=cur.toList.take off++x.cells.toList++cur.toList.drop (off+x.cells.toList.length)/\(storeVar t ⟨b,off,none⟩ x).run P w= .ok () (w.setRow b arr):=by obtain⟨fr,hg1,hg2⟩:=hg;have hst:=iy P b off T fr x.cells.toList 0 cur w hg1 hg2 (by simpa [hs]using hfit) h1;simp only[Nat.add_zero]at hst;exact⟨_,List.toList_toArray,by simp[storeVar,run_sizeOf h,hs,hst]⟩
end
theorem js{S:Nat}: ∀{q:List lXF},(∀r∈q,r.length=S)->q.flatten.length=q.length*S
 |[],_=>by simp
 |r::q,h=>by simp only[agK,afQ,agb];rw[js (λr' hr'=>h r'<|agf _ hr'),h r oaj,agF];omega
def tP{S:Nat}{cs row:lXF}{j:Nat}: ∀{rows:List lXF}{i:Nat},(∀r∈rows,r.length=S)->rows[i]? =some row->j+cs.length<=S->(rows.set i<|fj row j cs).flatten=fj rows.flatten (i*S+j) cs
 |[],i,_,h,_=>by simp at h
 |r::rs,0,hS,h,hj=>by grind[fj]
 |r::rs,i+1,hS,h,hj=>by have hr:=hS r oaj;have ih:=tP (rows:=rs) (i:=i) (λq hq=>hS q<|agf _ hq) oaM hj;rw[List.set_cons_succ,agK,ih];simp only[fj,agK];rw[show(i+1)*S+j=r.length+(i*S+j)from by rw[agF];omega,agO r.length,List.take_length_add_append,List.drop_length_add_append];simp[ag1]
theorem nA{S:Nat}{row:lXF}: ∀{rows:List lXF}{i:Nat},(∀r∈rows,r.length=S)->rows[i]? =some row->(rows.flatten.drop<|i*S).take S=row
 |[],i,_,h=>by simp at h
 |r::rs,0,hS,h=>by simp_all
 |r::rs,i+1,hS,h=>by have hr:=hS r oaj;have ih:=nA (rows:=rs) (i:=i) (λq hq=>hS q<|agf _ hq) oaM;simp only[agK];rw[show(i+1)*S=r.length+i*S from by rw[agF];omega,List.drop_length_add_append];exact ih
theorem Fg{cur xs:List Value}{off N:Nat}(h:off+xs.length<=N)(hN:N<=cur.length):(cur.take off++xs++cur.drop (off+xs.length)).take N=(cur.take N).take off++xs++(cur.take N).drop (off+xs.length):=by
 have hA:(cur.take N).length=N:=by simp;omega
 have hcur:=agG N cur;generalize cur.take N=A at hA hcur⊢;generalize cur.drop N=B at hcur;subst hcur;have e1:(A++B).take off=A.take off:=List.take_append_of_le_length oaa;have e2:(A++B).drop (off+xs.length)=A.drop (off+xs.length)++B:=List.drop_append_of_le_length oaa;grind[agv]
section
variable{P:Program}{n:Nat}{ops:Array Oper}{l:List Oper}{L:Loc}{ob:lXE}{kf:List Rec->Loc->lXE->Prop}{gu:Loc}
variable{dst:Option Nat}{ty:TypeId}{pos:String}{after:Array Edge}{guard:Option (Nat×Bool)}
theorem pO{o:Oper}{a:Act}{K:Act->World->Prop}{Q:Exit->Act->World->Prop}{w w':World}(h:(execOp a.eval o).run P w= .ok .skip w')(hk:K (a.put o.dst undef) w'):o.wp P a w K Q:=by grind[Oper.wp,Oper.upon_skip]
theorem CV(cells':lXF)(ob1:lXE){T:TypeId}{p x:Operand}{av:AV}{g:Bool}{k o off:Nat}{Tb:TypeId}{cells cs:lXF}(ht:tyk P T=some (g,k))(hp:aZ L p=some (.pt o off))(hx:aZ L x=some av)(hc:fV av=some cs)(hlen:cs.length=k)(ho:ob[o]? =some (.box Tb cells))(hfit:off+k<=cells.length)(hsp:spl cells off cs=cells')(hob:ob.set o (.box Tb cells')=ob1)(hg:Gd ops L guard gu)(hn: ∀d,dst=some d->d<n)(kk:EvK P n ops l (c7 L dst .any []) ob1 (λrecs=>kf<|⟨dst,gu++cm [(p,.pt o off),(x,av)],.any,[],.st o (.box Tb cells) (.box Tb cells')⟩::recs)):EvK P n ops (⟨dst,.store T p x,ty,pos,after,guard⟩::l) L ob kf:=
 by
 rw[CT oaa]at hsp;subst hob;subst hsp;exact Fc (o:=⟨dst,.store T p x,ty,pos,after,guard⟩) ho [(p,.pt o off),(x,av)] ⟨hp,hx,trivial⟩ hg hn (λob m γ w a K Q ho hi h hK=>by
  obtain⟨h1,h2,_⟩:=h;obtain⟨b,C,g1,g2⟩:=gW h1;obtain⟨b',cur,k1,k2,k3,k4⟩:=hi.obj o _ ho;rw[g1]at k1;cases k1;obtain⟨r1,r2⟩:=iV h2 hc;have hl1:=aX r1;have hl2:=aX k3;obtain⟨arr,ha,hst⟩:=qw (P:=P) ht (CA.lH k2) (x:=a.eval x) (by simpa [hlen]using hl1) (ny r1 r2) (off:=off) (by simp at hl2;omega);have hsp:=nz (off:=off) k3 r1;rw[<-ha]at hsp;obtain⟨_,i2,i3⟩:=qv hi (X':= .box Tb<|fj cells off cs) ho oaj g1 k4 (λq hq=>setRow_other w b q _ hq) (by simp[World.setRow]) rfl rfl rfl []
   ⟨b,arr,g1,setRow_heap w b cur _ Tb (0,0) k2,hsp,k4⟩
  refine pO ?_ (hK m γ _ undef i3 (Le.refl _ _ _) i2<|by simp[Rep]);grind[execOp,Instr.storeAt,Instr.sureAddr,Sem.run_bind,Sem.run_pure,Result.andThen_ok]) kk
theorem CW{T E:TypeId}{p x:Operand}{av:AV}{g:Bool}{k o off S i j:Nat}{rows:List lXF}{row cs:lXF}(ht:tyk P T=some (g,k))(hp:aZ L p=some (.pt o off))(hx:aZ L x=some av)(hc:fV av=some cs)(hlen:cs.length=k)(ho:ob[o]? =some (.row E S rows))(hoff:off=i*S+j)(hrow:rows[i]? =some row)(hfit:j+k<=S)(hg:Gd ops L guard gu)(hn: ∀d,dst=some d->d<n)(kk:EvK P n ops l (c7 L dst .any []) (ob.set o<|.row E S<|rows.set i<|fj row j cs) (λrecs=>kf<|⟨dst,gu++cm [(p,.pt o off),(x,av)],.any,[],.st o (.row E S rows) (.row E S<|rows.set i<|fj row j cs)⟩::recs)):EvK P n ops (⟨dst,.store T p x,ty,pos,after,guard⟩::l) L ob kf:=
 Fc (o:=⟨dst,.store T p x,ty,pos,after,guard⟩) ho [(p,.pt o off),(x,av)] ⟨hp,hx,trivial⟩ hg hn (λob m γ w a K Q ho hi h hK=>by
  obtain⟨h1,h2,_⟩:=h;obtain⟨b,C,g1,g2⟩:=gW h1;have hil:i<rows.length:=(afR.1 hrow).1;rcases hi.obj o _ ho with⟨_,e⟩|⟨b',C',cur,k1,k2,k3,k4,k5,k6,k7,k8⟩
  ·rw[e]at hil;simp at hil
  rw[g1]at k1;cases k1;obtain⟨r1,r2⟩:=iV h2 hc;have hl1:=aX r1;have hSr:row.length=S:=k6 row (agy hrow);have hiS:i*S+S<=rows.length*S:=by have:(i+1)*S<=rows.length*S:=agB _ hil;rw[agF]at this;omega
  have hCS:rows.length*S<=C*S:=agB _ k4;obtain⟨arr,ha,hst⟩:=qw (P:=P) ht k2 (x:=a.eval x) (by simpa [hlen]using hl1) (ny r1 r2) (off:=off) oaa;have hflat:=tP (cs:=cs) (j:=j) k6 hrow oaa;rw[<-hoff]at hflat;have hN:off+(a.eval x).cells.toList.length<=rows.length*S:=by omega
  have hsp:=nz (off:=off) k7 r1;rw[<-Fg hN oaA,<-ha,<-hflat]at hsp;obtain⟨_,i2,i3⟩:=qv hi (X':= .row E S<|rows.set i<|fj row j cs) ho oaj g1 k8 (λq hq=>setRow_other w b q _ hq) (by simp[World.setRow]) rfl rfl rfl []
   (.inr ⟨b,C,arr,g1,k2.setRow (by
    have:arr.size=arr.toList.length:=by simp
    rw[this,ha];have:cur.size=cur.toList.length:=by simp
    simp only[afQ,agw,ag4];omega),by
    have:arr.size=arr.toList.length:=by simp
    rw[this,ha,<-k3];have:cur.size=cur.toList.length:=by simp
    simp only[afQ,agw,ag4];omega,by simpa using k4,k5,λr hr=>by
    rcases List.mem_or_eq_of_mem_set hr with h|h
    ·exact k6 r h
    ·rw[h];unfold fj;simp only[afQ,agw,ag4];omega,by simpa using hsp,k8⟩)
  refine pO ?_ (hK m γ _ undef i3 (Le.refl _ _ _) i2<|by simp[Rep]);simp only[execOp,g2,Instr.storeAt,Instr.sureAddr,Sem.run_bind,Sem.run_pure,Result.andThen_ok,hst]) kk
theorem Br{m:Mem}{γ:Gam}{w:World}(hi:Inv m γ ob w){o S i:Nat}{E:TypeId}{rows:List lXF}{row:lXF}(ho:ob[o]? =some (.row E S rows))(hrow:rows[i]? =some row){off:Nat}{x:Value}(hx:Rep m γ (.pt o off) x):∃b xs,x= .pointer (some ⟨b,off,none⟩)/\aB m γ row xs/\row.length=S/\ ∀j v,xs[j]? =some v->w.cell? ⟨b,i*S+j,none⟩=some v:=by
 obtain⟨b,C,g1,g2⟩:=gW hx;have hil:i<rows.length:=(afR.1 hrow).1;rcases hi.obj o _ ho with⟨_,e⟩|⟨b',C',cur,k1,k2,k3,k4,k5,k6,k7,k8⟩
 ·rw[e]at hil;simp at hil
 rw[g1]at k1;cases k1;have hSr:row.length=S:=k6 row (agy hrow);have hiS:i*S+S<=rows.length*S:=by have:(i+1)*S<=rows.length*S:=agB _ hil;rw[agF]at this;omega
 have hr:=eg (eY k7<|i*S) S;grind[nA,k2.cell]
section
variable{t E:TypeId}{x:Operand}{o off k S i j:Nat}{rows:List lXF}{row:lXF}
theorem uy(ht:tyk P t=some (true,k))(hx:aZ L x=some (.pt o off))(ho:ob[o]? =some (.row E S rows))(hoff:off=i*S+j)(hrow:rows[i]? =some row)(hk:j+k<=S)(hg:Gd ops L guard gu)(hn: ∀d,dst=some d->d<n)(kk:EvK P n ops l (c7 L dst (.ag<|(row.drop j).take k) []) ob (λrecs=>kf<|⟨dst,gu++cm [(x,.pt o off)],.ag ((row.drop j).take k),[],.rd o (.row E S rows)⟩::recs)):EvK P n ops (⟨dst,.load t x,ty,pos,after,guard⟩::l) L ob kf:=
 vX (o:=⟨dst,.load t x,ty,pos,after,guard⟩) ho [(x,.pt o off)] ⟨hx,trivial⟩ hg hn (λob m γ w a ho hi h=>by
  obtain⟨b,xs,e1,e2,e3,e4⟩:=Br hi ho hrow h.1;have hr:=eg (eY e2 j) k;subst hoff;have:=jz (P:=P) (w:=w) ht (b:=b) (off:=i*S+j) (xs:=(xs.drop j).take k) (λq v hv=>by
   rw[agE]at hv;split at hv
   ·rw[ag6]at hv;rw[show i*S+j+q=i*S+(j+q)from by omega];exact e4 _ v hv
   ·cases hv) (by rw[aX hr];simp;omega)
  exact⟨_,by simp[execOp,e1,Instr.loadAt,Instr.sureAddr,this];rfl,by simp only[Rep];exact⟨_,rfl,hr⟩⟩) kk
theorem uz{c:AV}(ht:tyk P t=some (false,k))(hx:aZ L x=some (.pt o off))(ho:ob[o]? =some (.row E S rows))(hoff:off=i*S+j)(hrow:rows[i]? =some row)(hc:row[j]? =some c)(hg:Gd ops L guard gu)(hn: ∀d,dst=some d->d<n)(kk:EvK P n ops l (c7 L dst c []) ob (λrecs=>kf<|⟨dst,gu++cm [(x,.pt o off)],c,[],.rd o (.row E S rows)⟩::recs)):EvK P n ops (⟨dst,.load t x,ty,pos,after,guard⟩::l) L ob kf:=vX (o:=⟨dst,.load t x,ty,pos,after,guard⟩) ho [(x,.pt o off)] ⟨hx,trivial⟩ hg hn (λob m γ w a ho hi h=>by obtain⟨b,xs,e1,e2,e3,e4⟩:=Br hi ho hrow h.1;obtain⟨y,hy,hr⟩:=cd e2 j c hc;simp_all[jA,execOp,Instr.loadAt,Instr.sureAddr]) kk
end
end
inductive EvP(L:Loc):List (Nat×Operand)->List (Nat×AV)->List (Operand×AV)->Prop
 |nil:EvP L [] [] []
 |cons {i:Nat} {x:Operand} {av:AV} {ps:List (Nat×Operand)} {avs:List (Nat×AV)} {xs:List (Operand×AV)} (h:aZ L x=some av) (r:EvP L ps avs xs):EvP L ((i,x)::ps) ((i,av)::avs) ((x,av)::xs)
inductive EvA(L:Loc):List Operand->lXF->List (Operand×AV)->Prop
 |nil:EvA L [] [] []
 |cons {x:Operand} {av:AV} {ps:List Operand} {avs:lXF} {xs:List (Operand×AV)} (h:aZ L x=some av) (r:EvA L ps avs xs):EvA L (x::ps) (av::avs) ((x,av)::xs)
def ve{L:Loc}{ps:List (Nat×Operand)}{avs:List (Nat×AV)}{xs:List (Operand×AV)}(h:EvP L ps avs xs):eZ L xs:=by
 induction h with
 |nil=>trivial
 |cons h _ ih=>exact⟨h,ih⟩
def mv{L:Loc}{ps:List Operand}{avs:lXF}{xs:List (Operand×AV)}(h:EvA L ps avs xs):eZ L xs:=by
 induction h with
 |nil=>trivial
 |cons h _ ih=>exact⟨h,ih⟩
theorem lL{L:Loc}{m:Mem}{γ:Gam}{a:Act}{ps:List Operand}{avs:lXF}{xs:List (Operand×AV)}(h:EvA L ps avs xs)(hr:iw m γ a xs):aB m γ avs (ps.map a.eval):=by
 induction h with
 |nil=>simp[aB]
 |cons h _ ih=>simp only[af9,aB];exact⟨_,_,rfl,hr.1,ih hr.2⟩
def v8(place:List (Nat×Nat)):lXF->List (Nat×AV)->Option lXF
 |cells,[]=>some cells
 |cells,(i,av)::r=>match place[i]?,fV av with
  |some (off,size),some cs=>cond (Nat.beq cs.length size&&Nat.ble (off+size) cells.length) (v8 place (spl cells off cs) r) none
  |_,_=>none
theorem lz: ∀(vs:List Value)(k off:Nat)(cur:Array Value)(p:Nat),
  ((vs.zipIdx k).foldl (λcs q=>cs.setIfInBounds (off+q.2) q.1) cur)[p]? =if off+k<=p/\p<off+k+vs.length/\p<cur.size then vs[p-(off+k)]? else cur[p]?
 |[],k,off,cur,p=>by simp;omega
 |v::vs,k,off,cur,p=>by simp only[List.zipIdx_cons,List.foldl_cons];rw[lz vs (k+1) off];grind
def Bt{m:Mem}{γ:Gam}{a:Act}{L:Loc}{place:List (Nat×Nat)}{ps:List (Nat×Operand)}{avs:List (Nat×AV)}{xs:List (Operand×AV)}(hp:EvP L ps avs xs)(hr:iw m γ a xs):∀{cells cells':lXF}{cur:Array Value},aB m γ cells cur.toList->v8 place cells avs=some cells' -> ∃cur',Instr.fill (place.toArray[·]?) cur (ps.map λp=>(p.1,a.eval p.2))=some cur'/\aB m γ cells' cur'.toList:=by
 induction hp with
 |nil=>intro cells cells' cur hc hf;simp only[v8,afM]at hf;subst hf;exact⟨cur,rfl,hc⟩
 | @cons i x av ps avs xs h _ ih=>
  intro cells cells' cur hc hf;simp only[v8]at hf;cases hpl:place[i]? with
  |none=>simp[hpl]at hf
  |some q=>
   obtain⟨off,size⟩:=q;cases hac:fV av with
   |none=>simp[hpl,hac]at hf
   |some cs=>
    simp only[hpl,hac]at hf;cases hb:Nat.beq cs.length size&&Nat.ble (off+size) cells.length with
    |false=>rw[hb]at hf;cases hf
    |true=>
     rw[hb]at hf;simp only[af2]at hf;simp only[afJ]at hb;have hb1:=afV hb.1;have hb2:=nbl hb.2;obtain⟨r1,r2⟩:=iV hr.1 hac;have hl1:=aX r1;have hl2:=aX hc;simp at hl1 hl2;rw[CT oaa]at hf;have hsp:aB m γ (fj cells off cs) (((a.eval x).cells.zipIdx.foldl (λcs (c,j)=>cs.setIfInBounds (off+j) c) cur).toList):=by
      have h1:=nz (off:=off) hc r1;have h2:((a.eval x).cells.zipIdx.foldl (λcs (c,j)=>cs.setIfInBounds (off+j) c) cur).toList=cur.toList.take off++(a.eval x).cells.toList++cur.toList.drop (off+(a.eval x).cells.toList.length):=by rw[<-Array.foldl_toList,Array.toList_zipIdx];apply agd;intro p;rw[Array.getElem?_toList,lz];grind
      rw[h2];exact h1
     obtain⟨cur',k1,k2⟩:=ih hr.2 hsp hf;refine⟨cur',?_,k2⟩;have hcond: ¬((decide ((a.eval x).cells.size≠size)||decide (off+(a.eval x).cells.size>cur.size))=true):=by simp;omega
     grind[Instr.fill]
def v9(P:Program)(t:TypeId):Option (List (Nat×Nat)×List Value):=match P.info? t,P.underlying t with
 |some it,some (.struct fields)=>match it.zero,fields.toList.mapM (λf=>(P.info? f.type).map λi=>(f.offset,i.size))with
  |some z,some places=>some (places,z.cells.toList)
  |_,_=>none
 |_,_=>none
section
variable{P:Program}{n:Nat}{ops:Array Oper}{l:List Oper}{L:Loc}{ob:lXE}{kf:List Rec->Loc->lXE->Prop}{gu:Loc}
variable{dst:Option Nat}{ty:TypeId}{pos:String}{after:Array Edge}{guard:Option (Nat×Bool)}
theorem Sx{t:TypeId}{ps:List (Nat×Operand)}{avs:List (Nat×AV)}{xs:List (Operand×AV)}{pl:List (Nat×Nat)}{zs:List Value}{cells:lXF}(ht:v9 P t=some (pl,zs))(hp:EvP L ps avs xs)(hf:v8 pl (zs.map .v) avs=some cells)(hg:Gd ops L guard gu)(hn: ∀d,dst=some d->d<n)(kk:EvK P n ops l (c7 L dst (.ag cells) []) ob (λrecs=>kf (⟨dst,gu++cm xs,.ag cells,[],.pure⟩::recs))):EvK P n ops (⟨dst,.build t ps.toArray,ty,pos,after,guard⟩::l) L ob kf:=
 cY (o:=⟨dst,.build t ps.toArray,ty,pos,after,guard⟩) xs (ve hp) hg hn (λm γ w a _ hr=>by
  unfold v9 at ht;cases hi:P.info? t with
  |none=>simp[hi]at ht
  |some it=>
   cases hu:P.underlying t with
   |none=>simp[hi,hu]at ht
   |some d=>
    cases d with
    |struct fields=>
     simp only[hi,hu]at ht;cases hz:it.zero with
     |none=>simp[hz]at ht
     |some z=>
      cases hm:fields.toList.mapM (λf=>(P.info? f.type).map λi=>(f.offset,i.size))with
      |none=>simp[hz,hm]at ht
      |some places=>
       simp only[hz,hm,afM,af7]at ht;obtain⟨rfl,rfl⟩:=ht;obtain⟨cur',k1,k2⟩:=Bt (a:=a) hp hr (cur:=z.cells) (fk _) hf;have hb:P.built t (ps.map λp=>(p.1,a.eval p.2))=some cur':=by unfold Program.built;simp only[hi,hu,hz,hm];exact k1
       have:=run_build w t (ps.map λp=>(p.1,a.eval p.2)).toArray cur' (by simpa using hb);refine⟨.agg cur',?_,by simp only[Rep];exact⟨cur'.toList,by simp,k2⟩⟩;simp only[execOp,ahb,Sem.run_bind,this,Result.andThen_ok,Sem.run_pure]
    |_=>simp[hi,hu]at ht) kk
theorem wa{m:Mem}{γ:Gam}{w:World}(hi:Inv m γ ob w){rows:List lXF}{S:Nat}{T:TypeId}{cs:Array Value}{fr:Nat×Nat}(hS: ∀r∈rows,r.length=S)(hr:aB m γ rows.flatten cs.toList):∃m',Inv m' γ ob (w.alloc<|.cells cs T fr)/\Trans m γ w m' γ (w.alloc<|.cells cs T fr)/\Le m γ [] m' γ/\bP m' γ S rows w.heap.size 0:=by
 have hfr: ∀a x,m a=some x->a.block≠w.heap.size:=by intro a x h e;have:=World.block_lt_of_cell? w a (hi.mem a x h);omega
 let m':Mem:=⟨λa=>if a.block=w.heap.size then(if a.spot=none then cs[a.off]? else none)else m a,λa x h=>by rw[if_neg (hfr a x<|m.has a x h)];exact m.has a x h⟩;have hle:Le m γ [] m' γ:=⟨oaI,λ_ _ h _=>h⟩;refine⟨m',⟨λa x h=> ?_,λo X hX=> ?_,hi.sep,λo b C h=>by have:=hi.dom o b C h;simp;omega,hi.len⟩,?_,hle,?_⟩
 ·by_cases e:a.block=w.heap.size
  ·simp only[m',e,agX]at h;split at h
   ·rename_i hs;obtain⟨b,off,sp⟩:=a;simp only at e hs;subst e;subst hs;have hb:(w.alloc<|.cells cs T fr).heap[w.heap.size]? =some (.cells cs T fr):=World.alloc_heap_new w _;grind[World.cell?]
   ·cases h
  grind[Bp]
 ·refine fP (hi.obj o X hX) hle (λb C hb=>alloc_old w _<|hi.dom o b C hb) λb C hb off hn=> ?_;have:=hi.dom o b C hb;grind
 ·refine⟨λa x h=>hle.mem a x h,λa x h=> ?_,λ_ _ h=>h,rfl,rfl,rfl,by simp,λk hk _=>alloc_old w _ hk⟩;grind
 ·have hr':=ix hle hr;have key: ∀(rows:List lXF)(off:Nat),(∀r∈rows,r.length=S)->aB m' γ rows.flatten (cs.toList.drop off)->bP m' γ S rows w.heap.size off:=by
   intro rows;induction rows with
   |nil=>intro _ _ _;simp[bP]
   |cons r rs ih=>
    intro off hS hr;simp only[agK]at hr;have hrl:=hS r oaj;simp only[bP];refine⟨hrl,eW λi c hc=> ?_,ih (off+S) (λq hq=>hS q<|agf _ hq) ?_⟩
    ·have hlt:=(afR.1 hc).1;obtain⟨x,hx,hrx⟩:=cd hr i c oaI;grind
    ·have:=eY hr S;simp_all
  simp_all
def rowsOf(S:Nat):Nat->List (Nat×AV)->Option (List<|lXF)
 |_,[]=>some []
 |k,(i,av)::r=>match fV av,rowsOf S (k+1) r with
  |some cs,some rows=>cond (Nat.beq i k&&Nat.beq cs.length S) (some (cs::rows)) none
  |_,_=>none
theorem pP{S:Nat}: ∀{avs:List (Nat×AV)}{k:Nat}{rows:List lXF},rowsOf S k avs=some rows->rows.length=avs.length/\ ∀r∈rows,r.length=S
 |[],k,rows,h=>by grind[rowsOf]
 |(i,av)::r,k,rows,h=>by
  simp only[rowsOf]at h;cases hac:fV av with
  |none=>simp[hac]at h
  |some cs=>
   cases hr:rowsOf S (k+1) r with
   |none=>simp[hac,hr]at h
   |some rs=>
    simp only[hac,hr]at h;cases hb:Nat.beq i k&&Nat.beq cs.length S with
    |false=>rw[hb]at h;cases h
    |true=>rw[hb]at h;simp only[af2,afM]at h;subst h;simp only[afJ]at hb;obtain⟨h1,h2⟩:=pP hr;simp_all
theorem Bu{m:Mem}{γ:Gam}{a:Act}{L:Loc}{S:Nat}{ps:List (Nat×Operand)}{avs:List (Nat×AV)}{xs:List (Operand×AV)}(hp:EvP L ps avs xs)(hr:iw m γ a xs):∀{k:Nat}{rows:List lXF}{cur:Array Value},rowsOf S k avs=some rows->cur.size=(k+avs.length)*S->∃cur':Array Value,Instr.fill (λi=>some (i*S,S)) cur (ps.map λp=>(p.1,a.eval p.2))=some cur'/\ ∃ys,aB m γ rows.flatten ys/\cur'.toList=cur.toList.take (k*S)++ys:=by
 induction hp with
 |nil=>intro k rows cur h hc;simp only[rowsOf,afM]at h;subst h;refine⟨cur,rfl,[],by simp[aB],?_⟩;simp only[agA];rw[agv];simp at hc;simp[hc]
 | @cons i x av ps avs xs h _ ih=>
  intro k rows cur hro hc;simp only[rowsOf]at hro;cases hac:fV av with
  |none=>simp[hac]at hro
  |some cs=>
   cases hrs:rowsOf S (k+1) avs with
   |none=>simp[hac,hrs]at hro
   |some rs=>
    simp only[hac,hrs]at hro;cases hb:Nat.beq i k&&Nat.beq cs.length S with
    |false=>rw[hb]at hro;cases hro
    |true=>
     rw[hb]at hro;simp only[af2,afM]at hro;subst hro;simp only[afJ]at hb;have hik:=afV hb.1;have hcS:=afV hb.2;subst hik;obtain⟨r1,r2⟩:=iV hr.1 hac;have hl1:=aX r1;simp at hl1;have hsz:i*S+S<=cur.size:=by rw[hc];have:(i+1)*S<=(i+(avs.length+1))*S:=agB _ oaa;rw[agF]at this;simp only[agb];omega
     obtain⟨mid,hmid⟩: ∃mid,mid=(a.eval x).cells.zipIdx.foldl (λcs (c,j)=>cs.setIfInBounds (i*S+j) c) cur:=⟨_,rfl⟩;have hget: ∀p,mid[p]? =if i*S<=p/\p<i*S+(a.eval x).cells.size/\p<cur.size then(a.eval x).cells[p-i*S]? else cur[p]? :=by intro p;have:=lz (a.eval x).cells.toList 0 (i*S) cur p;rw[hmid,<-Array.foldl_toList,Array.toList_zipIdx];simpa using this
     have hms:mid.size=cur.size:=by
      rw[hmid];have: ∀(l:List (Value×Nat))(c:Array Value),(l.foldl (λcs q=>cs.setIfInBounds (i*S+q.2) q.1) c).size=c.size:=by
       intro l;induction l with
       |nil=>intro c;rfl
       |cons q l ihl=>intro c;simp only[List.foldl_cons];rw[ihl];simp
      rw[<-Array.foldl_toList];exact this _ _
     obtain⟨cur',k1,ys,k2,k3⟩:=ih hr.2 (k:=i+1) (cur:=mid) hrs (by rw[hms,hc];congr 1;simp only[agb];omega);refine⟨cur',?_,(a.eval x).cells.toList++ys,by simp only[agK];exact cL r1 k2,?_⟩
     ·have hcond: ¬((decide ((a.eval x).cells.size≠S)||decide (i*S+(a.eval x).cells.size>cur.size))=true):=by simp;omega
      simp only[af9,Instr.fill];rw[if_neg hcond];rw[hmid]at k1;simpa using k1
     ·rw[k3,<-ag1];congr 1;apply agd;intro p;rw[agE,Array.getElem?_toList,hget];by_cases h3:p<i*S
      ·rw[if_pos (by rw[agF];omega),if_neg oaa,afZ oaA,agE,if_pos h3];simp
      ·rw[agl oaA];simp only[agw,agT];rw[show min (i*S) cur.size=i*S from by omega];by_cases h4:p<(i+1)*S
       ·rw[agF]at h4;rw[if_pos (by rw[agF];omega),if_pos ⟨by omega,by omega,by omega⟩];simp
       ·rw[if_neg h4];rw[agF]at h4;rw[agh oaA]
theorem AP{t e:TypeId}{S B:Nat}{zs:List Value}{len:Nat}{ps:List (Nat×Operand)}{avs:List (Nat×AV)}{xs:List (Operand×AV)}{rows:List lXF}(ht:slk P t=some (e,S,B))(hz:zer P e=some zs)(hp:EvP L ps avs xs)(hr:rowsOf S 0 avs=some rows)(hlen:avs.length=len)(hsmall:len*S<=2^24)(hg:Gd ops L guard gu)(hn: ∀d,dst=some d->d<n)(kk:EvK P n ops l (c7 L dst (.sl S rows) []) ob (λrecs=>kf (⟨dst,gu++cm xs,.sl S rows,[],.pure⟩::recs))):EvK P n ops (⟨dst,.buildSlice t len ps.toArray,ty,pos,after,guard⟩::l) L ob kf:=
 CS (o:=⟨dst,.buildSlice t len ps.toArray,ty,pos,after,guard⟩) xs (ve hp) hg hn (λob m γ w a K Q hi hx hK=>by
  obtain⟨hu,inf,g1,g2,_⟩:=ke ht;obtain⟨z,hzz⟩: ∃z,inf.zero=some z:=by
   unfold zer at hz;rw[g1]at hz;cases hzz:inf.zero with
   |none=>simp[hzz]at hz
   |some z=>exact⟨z,rfl⟩
  have key: ∀cur:Array Value,cur.size=len*S-> ∃cur':Array Value,Instr.fill (λi=>some (i*S,S)) cur (ps.map λp=>(p.1,a.eval p.2))=some cur'/\aB m γ rows.flatten cur'.toList:=by
   intro cur hcur;obtain⟨cur',k1,ys,k2,k3⟩:=Bu (a:=a) hp hx (k:=0) (cur:=cur) hr (by simp[hlen,hcur]);have hcur:cur'.toList=ys:=by simpa using k3
   exact⟨cur',k1,by rw[hcur];exact k2⟩
  obtain⟨cur',hrep,hrun⟩: ∃cur':Array Value,aB m γ rows.flatten cur'.toList/\(execOp a.eval ⟨dst,.buildSlice t len ps.toArray,ty,pos,after,guard⟩).run P w= .ok (.value<|.slice (some ⟨w.heap.size,0,none⟩) len len) (w.alloc<|.cells cur' e):=by
   by_cases h0:len*S=0
   ·obtain⟨cur',k1,k2⟩:=key #[] (by simp[h0]);refine⟨cur',k2,?_⟩;have hb:(Instr.buildSlice t len (ps.map λp=>(p.1,a.eval p.2)).toArray).run P w= .ok (.slice (some ⟨w.heap.size,0,none⟩) len len) (w.alloc<|.cells cur' e):=by simp only[Instr.buildSlice,Sem.run_bind,run_underlying hu,Result.andThen_ok,sizeOf,typeInfo,run_program,g1,Sem.run_pure,g2,gt_iff_lt,h0,agX];have he:Array.map (λx=>(default:Value)) (Array.range 0)= #[]:=Array.eq_empty_of_size_eq_zero oaj;simp[newRow,he,k1]
    simp only[execOp,ahb,Sem.run_bind,hb,Result.andThen_ok,Sem.run_pure]
   ·obtain⟨cur',k1,k2⟩:=key ((Array.range<|len*S).map (z.cells[·%z.cells.size]!)) oaj;refine⟨cur',k2,?_⟩;have hb:=run_buildSlice w t e len (ps.map λp=>(p.1,a.eval p.2)).toArray cur' inf z hu g1 hzz (by rw[g2];omega) (by rw[g2];exact h0) (by rw[g2];exact k1);simp only[execOp,ahb,Sem.run_bind,hb,Result.andThen_ok,Sem.run_pure]
  obtain⟨hl1,hl2⟩:=pP hr;obtain⟨m',i1,i2,i3,i4⟩:=wa hi (S:=S) (T:=e) hl2 hrep;unfold Oper.wp;rw[hrun,Oper.upon_value];refine hK m' γ _ _ i2 i3 i1 ?_;simp only[Rep];exact⟨_,len,len,rfl,by omega,afP _,.inr ⟨w.heap.size,0,rfl,i4⟩⟩) kk
theorem aao{T:TypeId}{x:Operand}{av:AV}{cs:lXF}(hx:aZ L x=some av)(hc:fV av=some cs)(hg:Gd ops L guard gu)(hn: ∀d,dst=some d->d<n)(kk:EvK P n ops l (c7 L dst (.pf cs) []) ob (λrecs=>kf<|⟨dst,gu++cm [(x,av)],.pf cs,[],.pure⟩::recs)):EvK P n ops (⟨dst,.box T x,ty,pos,after,guard⟩::l) L ob kf:=
 CS (o:=⟨dst,.box T x,ty,pos,after,guard⟩) [(x,av)] ⟨hx,trivial⟩ hg hn (λob m γ w a K Q hi h hK=>by
  have hr:=(iV h.1 hc).1;obtain⟨m',i1,i2,i3,i4⟩:=wa hi (S:=cs.length) (T:=T) (rows:=[cs]) (cs:=(a.eval x).cells) (fr:=(0,0)) (λr hr=>by simp at hr;rw[hr]) (by simpa using hr);have hrun:(execOp a.eval ⟨dst,.box T x,ty,pos,after,guard⟩).run P w= .ok (.value<|.pointer<|some ⟨w.heap.size,0,none⟩) (w.alloc<|.cells (a.eval x).cells T):=by simp[execOp,Instr.box,newVar,newRow]
  unfold Oper.wp;rw[hrun,Oper.upon_value];refine hK m' γ _ _ i2 i3 i1 ?_;simp only[bP]at i4;simp only[Rep];exact⟨w.heap.size,0,rfl,i4.2.1⟩) kk
end
def qx{m:Mem}{γ:Gam}{S:Nat}: ∀{rows:List lXF}{b off:Nat},bP m γ S rows b off-> ∃xs:List Value,aB m γ rows.flatten xs/\xs.length=rows.length*S/\ ∀j v,xs[j]? =some v->m ⟨b,off+j,none⟩=some v
 |[],b,off,_=>⟨[],by simp[aB],by simp,by simp⟩
 |r::rs,b,off,h=>by simp only[bP]at h;obtain⟨h1,h2,h3⟩:=h;obtain⟨xs,k1,k2⟩:=lj h2;obtain⟨ys,g1,g2,g3⟩:=qx h3;have hl:=aX k1;refine⟨xs++ys,by grind[cL],by grind,λj v hv=> ?_⟩;grind
def eR(rows:List lXF):Bool:=rows.all λr=>r.all AV.one
def qy: ∀{rows:List lXF},eR rows=true->rows.flatten.all AV.one=true
 |[],_=>rfl
 |r::rs,h=>by grind[eR]
section
variable{P:Program}{w:World}
end
section
variable{P:Program}{n:Nat}{ops:Array Oper}{l:List Oper}{L:Loc}{ob:lXE}{kf:List Rec->Loc->lXE->Prop}{gu:Loc}
variable{dst:Option Nat}{ty:TypeId}{pos:String}{after:Array Edge}{guard:Option (Nat×Bool)}
end
section
variable{P:Program}{m:Mem}{γ:Gam}{ob:lXE}{w:World}
theorem c8{S k:Nat}{rows:List lXF}(hS: ∀r∈rows,r.length=S)(hk:k<=rows.length):rows.flatten.take (k*S)=(rows.take k).flatten:=by
 have hfl:=js (S:=S) (q:=rows.take k) (λr hr=>hS r<|agC hr);have hl:(rows.take k).length=k:=by simp;omega
 rw[hl]at hfl;conv=>lhs;rw[<-agG k rows]
 rw[List.flatten_append,List.take_append_of_le_length oaa];exact agv oaa
theorem mX{ks:lXC}: ∀{A B:lXF},dc ks A=true->dc ks B=true->dc ks (A++B)=true
 |[],B,_,h=>by simpa using h
 |a::A,B,h,k=>by simp only[dc,afJ]at h;simp[dc,h.1,mX h.2 k]
theorem po{ks:lXC}: ∀{rows:List lXF},fy ks rows=true->dc ks rows.flatten=true
 |[],_=>by simp[dc]
 |r::rs,h=>by simp only[fy,afJ]at h;simp only[agK];exact mX h.1 (po h.2)
section
variable(w:World)(t tx ty e:TypeId)(i:TypeInfo)
theorem qz(ht:P.underlying t=some (.slice e))(hi:P.info? e=some i)(g sLen sCap:Nat)(cur:Array Value)(hg:CA w g cur e){x:Value}{n:Nat}{news:List Value}(hs:Src P i.size tx x n news w)(hroom:sLen+n<=sCap)(hfit:sLen*i.size+news.length<=cur.size):(Builtin.append_ #[t,tx] ty #[.slice (some ⟨g,0,none⟩) sLen sCap,x]).run P w= .ok (.slice (some ⟨g,0,none⟩) (sLen+n) sCap) (w.setRow g (cur.toList.take (sLen*i.size)++news++cur.toList.drop (sLen*i.size+news.length)).toArray):=by obtain⟨fr,hg1,hg2⟩:=hg;have hst:=iy P g (sLen*i.size) e fr news 0 cur w hg1 hg2 (by simpa using hfit) hs.one;simp only[Nat.add_zero]at hst;rcases hs.kind with⟨e',hk⟩|hk<;>simp[Builtin.append_,run_underlying ht,run_underlying hk,sizeOf,typeInfo,hi,hs.len,hroom,hs.cells,Addr.add_lit,hst]
theorem uA(ht:P.underlying t=some (.slice e))(hi:P.info? e=some i){x:Value}{news:List Value}(hs:Src P i.size tx x 0 news w)(a:Option Addr):(Builtin.append_ #[t,tx] ty #[.slice a 0 0,x]).run P w= .ok (.slice a 0 0) w:=by have hn:news=[]:=(by grind[hs.newsLen]);subst hn;have hc:=hs.cells;rcases hs.kind with⟨e',hk⟩|hk<;>cases a<;>simp[Builtin.append_,run_underlying ht,run_underlying hk,sizeOf,typeInfo,hi,hs.len,hc,storeCells]
end
end
section
variable{P:Program}{n:Nat}{ops:Array Oper}{l:List Oper}{L:Loc}{ob:lXE}{kf:List Rec->Loc->lXE->Prop}{gu:Loc}
variable{dst:Option Nat}{ty:TypeId}{pos:String}{after:Array Edge}{guard:Option (Nat×Bool)}
theorem gh{o:Oper}{a:Act}{K:Act->World->Prop}{Q:Exit->Act->World->Prop}{w w':World}{v:Value}(h:(execOp a.eval o).run P w= .ok (.value v) w')(hk:K (a.put o.dst v) w'):o.wp P a w K Q:=by grind[Oper.wp,Oper.upon_value]
def AQ(ob:lXE)(S:Nat):AV->Option (List<|lXF)
 | .sl S' new=>cond (Nat.beq S' S) (some new) none
 | .sr o S' lo len=>match ob[o]? with
  |some (.row _ S2 rows)=>cond (Nat.beq S' S&&Nat.beq S2 S&&Nat.ble (lo+len) rows.length) (some<|(rows.drop lo).take len) none
  |_=>none
 | .v (.slice _ 0 _)=>some []
 | .v (.string s)=>cond (Nat.beq S 1) (some<|s.data.toList.map λb=>[.v (.int .u8 b.toNat)]) none
 |_=>none
def AR(P:Program)(tx:TypeId):AV->Bool
 | .v (.string _)=>match P.underlying tx with
  |some .string=>true
  |_=>false
 |_=>match P.underlying tx with
  |some (.slice _)=>true
  |_=>false
theorem CX{P:Program}{tx:TypeId}{av:AV}(h:AR P tx av=true)(hv: ∀s,av≠ .v (.string s)): ∃e,P.underlying tx=some (.slice e):=by
 have key:(match P.underlying tx with|some (.slice _)=>true|_=>false)=true:=by simp_all[AR]
 grind
theorem wb: ∀l:List UInt8,(l.map λb=>[AV.v (.int .u8 b.toNat)]).flatten=(l.map λb=>Value.int .u8 b.toNat).map .v
 |[]=>rfl
 |b::l=>by simp[wb l]
theorem wc{S:Nat}{rows:List lXF}(hS: ∀r∈rows,r.length=S){lo len:Nat}(h:lo+len<=rows.length):((rows.drop lo).take len).flatten=(rows.flatten.drop<|lo*S).take (len*S):=by have h1: ∀r∈rows.drop lo,r.length=S:=λr hr=>hS r (List.mem_of_mem_drop hr);rw[<-c8 h1 oaA];congr 1;have hl:=js (S:=S) (q:=rows.take lo) (λr hr=>hS r<|agC hr);rw[agw,Nat.min_eq_left oaa]at hl;conv=>rhs;rw[<-agG lo rows,List.flatten_append,<-hl,List.drop_left]
theorem Sy{P:Program}{m:Mem}{γ:Gam}{ob:lXE}{w:World}(hi:Inv m γ ob w){S:Nat}{tx:TypeId}{av:AV}{x:Value}{new:List lXF}(hr:Rep m γ av x)(ha:AQ ob S av=some new)(ht:AR P tx av=true)(hone:eR new=true):∃news,Src P S tx x new.length news w/\aB m γ new.flatten news/\ ∀r∈new,r.length=S:=by
 cases av with
 |sl S' rows=>
  obtain⟨e',hu⟩:=CX ht (by intro s h;cases h);simp only[AQ]at ha;cases hS:Nat.beq S' S with
  |false=>rw[hS]at ha;cases ha
  |true=>
   rw[hS]at ha;simp only[af2,afM]at ha;have:=afV hS;subst this;subst ha;simp only[Rep]at hr;obtain⟨ad,len,cap,rfl,e2,e3,e4⟩:=hr;subst e2;by_cases hn:rows=[]
   ·subst hn;refine⟨[],?_,by simp[aB],by simp⟩;refine⟨.inl ⟨e',hu⟩,λ_=>rfl,?_,?_,by simp,by simp⟩<;>(cases ad<;>simp[Builtin.firstCells,loadCells,loadCellsFrom])
   ·obtain⟨b,off,rfl,er⟩:=e4.resolve_left hn;obtain⟨news,n1,n2,n3⟩:=qx er;exact⟨news,Src.ofSlice w hu ⟨b,off,none⟩ rows.length cap news n2 (λj u hu=>by rw[fN];exact hi.mem _ _<|n3 j u hu) (ny n1<|qy hone),n1,λr hr=>by obtain⟨i,hi2,hir⟩:=List.getElem_of_mem hr;exact(jm er i r<|by rw[af0 hi2,hir]).1⟩
 |sr o S' lo len=>
  obtain⟨e',hu⟩:=CX ht (by intro s h;cases h);simp only[AQ]at ha;cases ho:ob[o]? with
  |none=>rw[ho]at ha;cases ha
  |some X=>
   rw[ho]at ha;cases X<;>first|(cases ha;done)|skip
   rename_i T S2 rows;simp only at ha;cases hc:Nat.beq S' S&&Nat.beq S2 S&&Nat.ble (lo+len) rows.length with
   |false=>rw[hc]at ha;cases ha
   |true=>
    rw[hc]at ha;simp only[af2,afM]at ha;simp only[afJ]at hc;have q1:=afV hc.1.1;have q2:=afV hc.1.2;have q3:=nbl hc.2;subst q1;subst q2;subst ha;have hlen:((rows.drop lo).take len).length=len:=by simp;omega
    simp only[Rep]at hr;rcases hr with⟨g1,⟨ad,rfl⟩,rfl,rfl⟩|⟨b,C,cap,g1,g2,_,_,(rfl|⟨rfl,_,ad,rfl⟩)⟩
    rotate_left 2
    ·refine⟨[],?_,by simp[aB],by simp⟩;rw[List.take_zero];refine⟨.inl ⟨e',hu⟩,λ_=>rfl,?_,?_,by simp,by simp⟩<;>(cases ad<;>simp[Builtin.firstCells,loadCells,loadCellsFrom])
    ·refine⟨[],?_,by simp[aB],by simp⟩;refine⟨.inl ⟨e',hu⟩,λ_=>rfl,?_,?_,by simp,by simp⟩<;>(cases ad<;>simp[Builtin.firstCells,loadCells,loadCellsFrom])
    ·rcases hi.obj o _ ho with⟨e1,_⟩|⟨b',C',cs,p1,p2,p3,p4,p5,p6,p7,p8⟩
     ·rw[g1]at e1;cases e1
     ·rw[g1]at p1;cases p1;have h1:=eg (eY p7<|lo*S2) (len*S2);rw[<-wc p6 q3]at h1;have hl:=aX h1;have hl2:=js (S:=S2) (q:=(rows.drop lo).take len) (λr hr=>p6 r<|List.mem_of_mem_drop<|agC hr);refine⟨_,?_,h1,λr hr=>p6 r (List.mem_of_mem_drop<|agC hr)⟩;rw[hlen];refine Src.ofSlice w hu ⟨b,lo*S2,none⟩ len cap _ (by rw[hl,hl2,hlen]) (λj u hu=> ?_) (ny h1<|qy hone);rw[fN,p2.cell];rw[agE]at hu;split at hu
      ·rw[ag6,agE]at hu;split at hu
       ·simpa using hu
       ·cases hu
      ·cases hu
 |v y=>
  simp only[Rep]at hr;subst hr;cases x<;>first|(cases ha;done)|skip
  ·rename_i s;simp only[AQ]at ha;cases hS:Nat.beq S 1 with
   |false=>rw[hS]at ha;cases ha
   |true=>
    rw[hS]at ha;simp only[af2,afM]at ha;have:=afV hS;subst this;subst ha;have hu:P.underlying tx=some .string:=by
     simp only[AR]at ht;split at ht
     ·assumption
     ·cases ht
    refine⟨byteCells s,?_,by rw[wb];exact fk _,?_⟩
    ·have:=Src.ofString (P:=P) w hu s;rw[afW];have e:s.data.toList.length=s.size:=by rw[agT];rfl
     rw[e];exact this
    ·intro r hr;obtain⟨_,_,rfl⟩:=agm.1 hr;rfl
  ·rename_i ad len cap;obtain⟨e',hu⟩:=CX ht (by intro s h;cases h);cases len<;>first|(cases ha;done)|skip
   simp only[AQ,afM]at ha;subst ha;refine⟨[],?_,by simp[aB],by simp⟩;refine⟨.inl ⟨e',hu⟩,λ_=>rfl,?_,?_,by simp,by simp⟩<;>(cases ad<;>simp[Builtin.firstCells,loadCells,loadCellsFrom])
 |_=>cases ha
theorem tQ{m:Mem}{γ:Gam}{w:World}(hi:Inv m γ ob w)(T:TypeId)(S:Nat):
  Inv m (λk=>if k=ob.length then some none else γ k) (ob++ [.row T S []]) w/\Trans m γ w m (λk=>if k=ob.length then some none else γ k) w/\Le m γ [] m (λk=>if k=ob.length then some none else γ k):=by
 have hle:Le m γ [] m (λk=>if k=ob.length then some none else γ k):=⟨λ_ _ h=>h,λo g hg _=>by have:=hi.len o oaL;simp[hg,show o≠ob.length by omega]⟩;have hold: ∀k b C,(λk=>if k=ob.length then some none else γ k) k=some (some (b,C))->γ k=some (some (b,C)):=by
  intro k b C h;by_cases e:k=ob.length
  ·subst e;simp at h
  ·simpa [e]using h
 refine⟨⟨hi.mem,λo X hX=> ?_,λo o' b C C' l1 l2 h1 h2=> ?_,λo b C h=>hi.dom o b C (hold o b C h),λo h=> ?_⟩,⟨λ_ _ h=>h,λ_ _ h=> .inl h,λk _⟨o,C,h⟩=>⟨o,C,hold o k C h⟩,rfl,rfl,rfl,afP _,λ_ _ _=>rfl⟩,hle⟩
 ·by_cases ho:o<ob.length
  ·rw[afZ ho]at hX;exact fP (hi.obj o X hX) hle (λ_ _ _=>rfl) (λ_ _ _ _ h=>h)
  ·have:=(afR.1 hX).1;have hoe:o=ob.length:=by simp at this;omega
   subst hoe;rw[agl (afP _)]at hX;simp at hX;subst hX;exact .inl ⟨by simp,rfl⟩
 ·have g1:=hold o b C h1;have g2:=hold o' b C' h2;have q1:=hi.len o (by rw[g1];simp);have q2:=hi.len o' (by rw[g2];simp);have lv: ∀k,k<ob.length->live (ob++ [.row T S []]) k->live ob k:=by rintro k hk ⟨Y,hY,hne⟩;rw[afZ hk]at hY;exact⟨Y,hY,hne⟩
  exact hi.sep o o' b C C' (lv o q1 l1) (lv o' q2 l2) g1 g2
 ·by_cases e:o=ob.length
  ·simp[e]
  ·have:=hi.len o (by simpa [e]using h);simp;omega
end
mutual
def AV.ren (f:Nat->Nat):AV->AV
 | .any=> .any
 | .v x=> .v x
 | .sl S rows=> .sl S (de f rows)
 | .ag cs=> .ag (bt f cs)
 | .tu cs=> .tu (bt f cs)
 | .pt o off=> .pt (f o) off
 | .pf cs=> .pf (bt f cs)
 | .sr o S lo len=> .sr (f o) S lo len
 | .fn g fs cs=> .fn g (bt f fs) (bt f cs)
 | .ifc t y=> .ifc t (y.ren f)
 | .mp o=> .mp (f o)
 | .yl o=> .yl (f o)
 | .cl S rows=> .cl S (de f rows)
def bt (f:Nat->Nat):lXF->lXF
 |[]=>[]
 |c::cs=>c.ren f::bt f cs
def de (f:Nat->Nat):List lXF->List lXF
 |[]=>[]
 |r::rs=>bt f r::de f rs
end
mutual
def AV.pure:AV->Bool
 | .any=>true
 | .v _=>true
 | .sl _ rows=>ak rows
 | .ag cs=>aj cs
 | .tu cs=>aj cs
 | .pt _ _=>false
 | .pf cs=>aj cs
 | .sr _ _ _ _=>false
 | .fn _ fs cs=>aj fs&&aj cs
 | .ifc _ y=>y.pure
 | .mp _=>false
 | .yl _=>false
 | .cl _ rows=>ak rows
def aj:lXF->Bool
 |[]=>true
 |c::cs=>c.pure&&aj cs
def ak:List lXF->Bool
 |[]=>true
 |r::rs=>aj r&&ak rs
end
mutual
theorem gi (f:Nat->Nat): ∀av:AV,av.pure=true->av.ren f=av
 | .any,_=>by simp[AV.ren]
 | .v _,_=>by simp[AV.ren]
 | .sl _ rows,h=>by simp only[AV.pure]at h;simp[AV.ren,eC f rows h]
 | .ag cs,h=>by simp only[AV.pure]at h;simp[AV.ren,ca f cs h]
 | .tu cs,h=>by simp only[AV.pure]at h;simp[AV.ren,ca f cs h]
 | .pt _ _,h=>by simp[AV.pure]at h
 | .pf cs,h=>by simp only[AV.pure]at h;simp[AV.ren,ca f cs h]
 | .sr _ _ _ _,h=>by simp[AV.pure]at h
 | .fn _ fs cs,h=>by simp only[AV.pure,afJ]at h;simp[AV.ren,ca f fs h.1,ca f cs h.2]
 | .ifc _ y,h=>by simp only[AV.pure]at h;simp[AV.ren,gi f y h]
 | .mp _,h=>by simp[AV.pure]at h
 | .yl _,h=>by simp[AV.pure]at h
 | .cl _ rows,h=>by simp only[AV.pure]at h;simp[AV.ren,eC f rows h]
theorem ca (f:Nat->Nat): ∀cs:lXF,aj cs=true->bt f cs=cs
 |[],_=>by simp[bt]
 |c::cs,h=>by simp only[aj,afJ]at h;simp[bt,gi f c h.1,ca f cs h.2]
theorem eC (f:Nat->Nat): ∀rows:List lXF,ak rows=true->de f rows=rows
 |[],_=>by simp[de]
 |r::rs,h=>by simp only[ak,afJ]at h;simp[de,ca f r h.1,eC f rs h.2]
end
theorem eO(f:Nat->Nat): ∀rows:List lXF,(de f rows).length=rows.length
 |[]=>rfl
 |r::rs=>by simp[de,eO f rs]
theorem ki(f:Nat->Nat): ∀cs:lXF,(bt f cs).length=cs.length
 |[]=>rfl
 |r::rs=>by simp[bt,ki f rs]
theorem iz(f:Nat->Nat): ∀a b:lXF,bt f (a++b)=bt f a++bt f b
 |[],b=>rfl
 |c::a,b=>by simp[bt,iz f a b]
theorem qA(f:Nat->Nat): ∀rows:List lXF,(de f rows).flatten=bt f rows.flatten
 |[]=>rfl
 |r::rs=>by simp[de,qA f rs,iz]
theorem nB{S:Nat}(f:Nat->Nat): ∀{rows:List lXF},(∀r∈de f rows,r.length=S)↔(∀r∈rows,r.length=S)
 |[]=>by simp[de]
 |r::rs=>by simp only[de,agq,forall_eq_or_imp,ki,nB f (rows:=rs)]
section
variable{m:Mem}{γ:Gam}{f:Nat->Nat}
mutual
theorem eD: ∀(av:AV)(x:Value),Rep m (λk=>γ<|f k) av x↔Rep m γ (av.ren f) x
 | .any,_=>by simp[AV.ren,Rep]
 | .v _,_=>by simp[AV.ren,Rep]
 | .sl S rows,x=>by
  simp only[AV.ren,Rep,eO];constructor
  ·rintro⟨a,len,cap,h1,h2,h3,h4⟩;refine⟨a,len,cap,h1,h2,h3,?_⟩;rcases h4 with h4|⟨b,off,h5,h6⟩
   ·left;subst h4;rfl
   ·right;exact⟨b,off,h5,(hH S rows b off).1 h6⟩
  ·rintro⟨a,len,cap,h1,h2,h3,h4⟩;refine⟨a,len,cap,h1,h2,h3,?_⟩;rcases h4 with h4|⟨b,off,h5,h6⟩
   ·grind[eO]
   ·right;exact⟨b,off,h5,(hH S rows b off).2 h6⟩
 | .ag cs,x=>by
  simp only[AV.ren,Rep];constructor
  ·rintro⟨xs,h1,h2⟩;exact⟨xs,h1,(cB cs xs).1 h2⟩
  ·rintro⟨xs,h1,h2⟩;exact⟨xs,h1,(cB cs xs).2 h2⟩
 | .tu cs,x=>by
  simp only[AV.ren,Rep];constructor
  ·rintro⟨xs,h1,h2⟩;exact⟨xs,h1,(cB cs xs).1 h2⟩
  ·rintro⟨xs,h1,h2⟩;exact⟨xs,h1,(cB cs xs).2 h2⟩
 | .pt o off,x=>by simp[AV.ren,Rep]
 | .pf cs,x=>by
  simp only[AV.ren,Rep];constructor
  ·rintro⟨b,off,h1,h2⟩;exact⟨b,off,h1,(gB cs b off).1 h2⟩
  ·rintro⟨b,off,h1,h2⟩;exact⟨b,off,h1,(gB cs b off).2 h2⟩
 | .sr o S lo len,x=>by simp[AV.ren,Rep]
 | .fn g fs cs,x=>by
  simp only[AV.ren,Rep];constructor
  ·rintro⟨xs,ys,h1,h2,h3⟩;exact⟨xs,ys,h1,(cB fs xs).1 h2,(cB cs ys).1 h3⟩
  ·rintro⟨xs,ys,h1,h2,h3⟩;exact⟨xs,ys,h1,(cB fs xs).2 h2,(cB cs ys).2 h3⟩
 | .ifc t y,x=>by
  simp only[AV.ren,Rep];constructor
  ·rintro⟨z,h1,h2⟩;exact⟨z,h1,(eD y z).1 h2⟩
  ·rintro⟨z,h1,h2⟩;exact⟨z,h1,(eD y z).2 h2⟩
 | .mp o,x=>by simp[AV.ren,Rep]
 | .yl o,x=>by simp[AV.ren,Rep]
 | .cl S rows,x=>by
  simp only[AV.ren,Rep,eO];constructor
  ·rintro⟨a,len,h1,h2,h4⟩;refine⟨a,len,h1,h2,?_⟩;rcases h4 with h4|⟨b,off,h5,h6⟩
   ·left;subst h4;rfl
   ·right;exact⟨b,off,h5,(hH S rows b off).1 h6⟩
  ·rintro⟨a,len,h1,h2,h4⟩;refine⟨a,len,h1,h2,?_⟩;rcases h4 with h4|⟨b,off,h5,h6⟩
   ·grind[eO]
   ·right;exact⟨b,off,h5,(hH S rows b off).2 h6⟩
theorem cB: ∀(cs:lXF)(xs:List Value),aB m (λk=>γ<|f k) cs xs↔aB m γ (bt f cs) xs
 |[],xs=>by simp[bt,aB]
 |c::cs,xs=>by
  simp only[bt,aB];constructor
  ·rintro⟨x,r,h1,h2,h3⟩;exact⟨x,r,h1,(eD c x).1 h2,(cB cs r).1 h3⟩
  ·rintro⟨x,r,h1,h2,h3⟩;exact⟨x,r,h1,(eD c x).2 h2,(cB cs r).2 h3⟩
theorem gB: ∀(cs:lXF)(b off:Nat),bK m (λk=>γ<|f k) cs b off↔bK m γ (bt f cs) b off
 |[],b,off=>by simp[bt,bK]
 |c::cs,b,off=>by
  simp only[bt,bK];constructor
  ·rintro⟨⟨x,h1,h2⟩,h3⟩;exact⟨⟨x,h1,(eD c x).1 h2⟩,(gB cs b<|off+1).1 h3⟩
  ·rintro⟨⟨x,h1,h2⟩,h3⟩;exact⟨⟨x,h1,(eD c x).2 h2⟩,(gB cs b<|off+1).2 h3⟩
theorem hH (S:Nat): ∀(rows:List lXF)(b off:Nat),bP m (λk=>γ<|f k) S rows b off↔bP m γ S (de f rows) b off
 |[],b,off=>by simp[de,bP]
 |r::rs,b,off=>by
  simp only[de,bP,ki];constructor
  ·rintro⟨h1,h2,h3⟩;exact⟨h1,(gB r b off).1 h2,(hH S rs b<|off+S).1 h3⟩
  ·rintro⟨h1,h2,h3⟩;exact⟨h1,(gB r b off).2 h2,(hH S rs b<|off+S).2 h3⟩
end
end
def Ob.ren(f:Nat->Nat):Ob->Ob
 | .dead=> .dead
 | .box T cells=> .box T (bt f cells)
 | .row T S rows=> .row T S (de f rows)
 | .mp keys vals=> .mp keys (bt f vals)
 | .lp busy k ts cs=> .lp busy k ts (bt f cs)
def nC{m:Mem}{γ:Gam}{w:World}{f:Nat->Nat}{o:Nat}{X:Ob}:iL m (λk=>γ<|f k) w o X↔iL m γ w (f o) (X.ren f):=by
 cases X with
 |dead=>simp[Ob.ren,iL]
 |box T cells=>grind[Ob.ren,iL,cB]
 |row T S rows=>
  simp only[Ob.ren,iL,eO,qA];constructor
  ·rintro(⟨h1,h2⟩|⟨b,C,cs,h1,h2,h3,h4,h5,h6,h7,h8⟩)
   ·left;exact⟨h1,by rw[h2];rfl⟩
   ·right;exact⟨b,C,cs,h1,h2,h3,h4,h5,(nB f).2 h6,(cB _ _).1 h7,h8⟩
  ·rintro(⟨h1,h2⟩|⟨b,C,cs,h1,h2,h3,h4,h5,h6,h7,h8⟩)
   ·grind[eO]
   ·right;exact⟨b,C,cs,h1,h2,h3,h4,h5,(nB f).1 h6,(cB _ _).2 h7,h8⟩
 |mp keys vals=>grind[Ob.ren,iL,cB]
 |lp busy k ts cs=>simp_all[Ob.ren,iL,cB]
def bM(sel:lXC)(N i:Nat):Nat:=match sel[i]? with
 |some s=>s
 |none=>N+(i-sel.length)
def gH:lXE->lXC->lXE->lXE
 |ob,s::sel,X::obc=>gH (ob.set s X) sel obc
 |ob,_,_=>ob
def eu(ks:lXC)(ob:lXE):lXE:=match ks with
 |[]=>ob
 |k::ks=>ob.map (mr (k::ks))
def back(ob:lXE)(sel ks:lXC)(obc:lXE):lXE:=gH (eu (ks.map<|bM sel ob.length) ob) sel ((obc.take sel.length).map<|Ob.ren<|bM sel ob.length)++(obc.drop sel.length).map (Ob.ren<|bM sel ob.length)
theorem jh: ∀(ob:lXE)(sel:lXC)(obc:lXE),(gH ob sel obc).length=ob.length
 |ob,[],obc=>by cases obc<;>rfl
 |ob,s::sel,[]=>rfl
 |ob,s::sel,X::obc=>by simp[gH,jh]
def mw: ∀{ob:lXE}{sel:lXC}{obc:lXE},sel.Nodup->sel.length=obc.length->(∀s∈sel,s<ob.length)->(∀(i s:Nat)(X:Ob),sel[i]? =some s->obc[i]? =some X->(gH ob sel obc)[s]? =some X)/\(∀j,j∉sel->(gH ob sel obc)[j]? =ob[j]?)
 |ob,[],[],_,_,_=>⟨λi s X h=>by simp at h,λj _=>rfl⟩
 |ob,s::sel,X::obc,hn,hl,hs=>by obtain⟨hn1,hn2⟩:=List.nodup_cons.1 hn;obtain⟨k1,k2⟩:=mw (ob:=ob.set s X) (sel:=sel) (obc:=obc) hn2 oaZ oaz;grind[gH]
 |ob,[],X::obc,_,hl,_=>by simp at hl
 |ob,s::sel,[],_,hl,_=>by simp at hl
theorem e9{sel:lXC}{N i s:Nat}(h:sel[i]? =some s):bM sel N i=s:=by simp[bM,h]
theorem kN{sel:lXC}{N i:Nat}(h:sel.length<=i):bM sel N i=N+(i-sel.length):=by simp[bM,agh h]
def lM(sel:lXC)(N j:Nat):Option Nat:=if N<=j then some (sel.length+(j-N))else sel.idxOf? j
theorem Bv{sel:lXC}{N:Nat}(hn:sel.Nodup)(hs: ∀s∈sel,s<N)(i:Nat):lM sel N (bM sel N i)=some i:=by
 by_cases hi:i<sel.length
 ·grind[e9,List.getElem_mem,lM,List.idxOf?_eq_some_iff,List.pairwise_iff_getElem]
 grind[kN,lM]
theorem lN{sel:lXC}{N:Nat}{j i:Nat}(h:lM sel N j=some i):bM sel N i=j/\(j<N->i<sel.length/\sel[i]? =some j):=by grind[lM,kN,List.idxOf?_eq_some_iff,e9]
def sN{sel:lXC}{N j:Nat}(h:lM sel N j=none):j<N/\j∉sel:=by grind[lM]
section
variable{P:Program}{m:Mem}{γ:Gam}{ob:lXE}{w:World}
theorem kO{ks:lXC}{j:Nat}:(eu ks ob)[j]? =match ks with|[]=>ob[j]? |k::ks=>(ob[j]?).map (mr (k::ks)):=by grind[eu]
theorem fB(ks:lXC):(eu ks ob).length=ob.length:=by cases ks<;>simp[eu]
theorem ow(hi:Inv m γ ob w){sel:lXC}{obc:lXE}(hn:sel.Nodup)(hl:sel.length=obc.length)(hsel: ∀(i s:Nat)(X:Ob),sel[i]? =some s->obc[i]? =some X->ob[s]? =some (X.ren<|bM sel ob.length)/\X≠ .dead):Inv m (λk=>γ<|bM sel ob.length k) obc w:=by
 have key: ∀(i:Nat)(X:Ob),obc[i]? =some X-> ∃s:Nat,sel[i]? =some s/\ob[s]? =some (X.ren<|bM sel ob.length)/\X≠ .dead:=by
  intro i X hX;have hi':i<sel.length:=by have:=(afR.1 hX).1;omega
  have h1:sel[i]? =some sel[i]:=af0 hi';exact⟨_,h1,hsel i _ X h1 hX⟩
 refine⟨hi.mem,λo X hX=> ?_,λo o' b C C' h1 h2 h3 h4=> ?_,λo b C h=>hi.dom _ b C h,λo h=> ?_⟩
 ·obtain⟨s,g1,g2,_⟩:=key o X hX;refine nC.2 ?_;rw[e9 g1];exact hi.obj s _ g2
 ·obtain⟨X,hX,_⟩:=h1;obtain⟨Y,hY,_⟩:=h2;obtain⟨s,g1,g2,g3⟩:=key o X hX;obtain⟨t,k1,k2,k3⟩:=key o' Y hY;rw[e9 g1]at h3;rw[e9 k1]at h4;have dd: ∀{Z:Ob},Z≠ .dead->Z.ren (bM sel ob.length)≠ .dead:=by intro Z hZ;cases Z<;>simp_all[Ob.ren]
  have e:=hi.sep s t b C C' ⟨_,g2,dd g3⟩ ⟨_,k2,dd k3⟩ h3 h4;subst e;have o1:=(afR.1 g1).1;have o2:=(afR.1 k1).1;rcases Nat.lt_trichotomy o o' with h|h|h
  ·have:=List.pairwise_iff_getElem.1 hn o o' o1 o2 h;rw[(afR.1 g1).2,(afR.1 k1).2]at this;exact absurd rfl this
  ·exact h
  ·have:=List.pairwise_iff_getElem.1 hn o' o o2 o1 h;rw[(afR.1 g1).2,(afR.1 k1).2]at this;exact absurd rfl this
 ·by_cases h1:o<sel.length
  ·omega
  ·have h2:=hi.len _ h;rw[kN oaa]at h2;omega
theorem lO(hi:Inv m γ ob w){sel kk:lXC}{obc obc':lXE}(hn:sel.Nodup)(hl:sel.length=obc.length)(hsel: ∀(i s:Nat)(X:Ob),sel[i]? =some s->obc[i]? =some X->ob[s]? =some (X.ren<|bM sel ob.length)/\X≠ .dead)(hl':sel.length<=obc'.length)(hkk: ∀k∈kk,k<sel.length){m':Mem}{γc:Gam}{w':World}(ht:Trans m (λk=>γ<|bM sel ob.length k) w m' γc w')(hi':Inv m' γc obc' w')(hkeep: ∀o g,kk.contains o=false->γ (bM sel ob.length o)=some g->γc o=some g):∃γ',(∀i,γ' (bM sel ob.length i)=γc i)/\Trans m γ w m' γ' w'/\Le m γ (kk.map<|bM sel ob.length) m' γ'/\Inv m' γ' (back ob sel kk obc') w':=by
 have hs: ∀s∈sel,s<ob.length:=by
  intro s h;obtain⟨i,hi1,hi2⟩:=List.getElem_of_mem h;have h1:sel[i]? =some s:=by rw[af0 hi1,hi2]
  have h2:obc[i]? =some (obc[i]'oaa):=af0 oaa;exact(afR.1 (hsel i s _ h1 h2).1).1
 let f:=bM sel ob.length;let γ':Gam:=λj=>match lM sel ob.length j with
  |some i=>γc i
  |none=>γ j
 have hf: ∀i,γ' (f i)=γc i:=λi=>by simp only[γ',f,Bv hn hs]
 have hnone: ∀j,lM sel ob.length j=none->γ' j=γ j:=λj h=>by simp only[γ',h]
 have hsome: ∀j i,lM sel ob.length j=some i->γ' j=γc i:=λj i h=>by simp only[γ',h]
 have hingc: ∀k,InG (λk=>γ<|f k) k->InG γ k:=λk⟨o,C,h⟩=>⟨f o,C,h⟩;have hgam: ∀k,k<w.heap.size->InG γ' k->InG γ k:=by
  rintro k hk ⟨j,C,h⟩;cases hv:lM sel ob.length j with
  |none=>rw[hnone j hv]at h;exact⟨j,C,h⟩
  |some i=>rw[hsome j i hv]at h;exact hingc k (ht.gam k hk ⟨i,C,h⟩)
 have htr:Trans m γ w m' γ' w':=⟨ht.mem,λa x h=>(ht.new a x h).imp id (Or.imp id<|hingc _),hgam,ht.os,ht.tape,ht.output,ht.size,λk hk hno=>ht.blk k hk (λh=>hno<|hingc k h)⟩;have hle:Le m γ (kk.map f) m' γ':=by
  refine⟨ht.mem,λo g hg hk=> ?_⟩;cases hv:lM sel ob.length o with
  |none=>rw[hnone o hv];exact hg
  |some i=>
   rw[hsome o i hv];obtain⟨h1,_⟩:=lN hv;refine hkeep i g ?_ (by rw[h1];exact hg);cases hc:kk.contains i with
   |false=>rfl
   |true=>
    have:(kk.map f).contains o=true:=by simp only[List.contains_iff_mem,agm]at hc⊢;exact⟨i,hc,h1⟩
    rw[this]at hk;cases hk
 have hlenb:(back ob sel kk obc').length=ob.length+(obc'.length-sel.length):=by unfold back;simp[jh,fB]
 have htake:sel.length=((obc'.take sel.length).map<|Ob.ren f).length:=by simp;omega
 obtain⟨sg1,sg2⟩:=mw (ob:=eu (kk.map f) ob) hn htake (λs h=>by rw[fB];exact hs s h);have hget: ∀j Y,(back ob sel kk obc')[j]? =some Y->(∃i X,lM sel ob.length j=some i/\obc'[i]? =some X/\Y=X.ren f)\/(lM sel ob.length j=none/\(eu (kk.map f) ob)[j]? =some Y):=by
  intro j Y hY;unfold back at hY;have hsl:(gH (eu (kk.map f) ob) sel<|(obc'.take sel.length).map<|Ob.ren f).length=ob.length:=by rw[jh,fB]
  by_cases hj:j<ob.length
  ·rw[afZ (by rw[hsl];exact hj)]at hY;by_cases hjs:j∈sel
   ·left;obtain⟨i,hi1,hi2⟩:=List.getElem_of_mem hjs;have h1:sel[i]? =some j:=by rw[af0 hi1,hi2]
    have h2:obc'[i]? =some (obc'[i]'oaa):=af0 oaa;have h3:=sg1 i j ((obc'[i]'oaa).ren f) h1 (by rw[afY,agE,if_pos hi1,h2];rfl);rw[h3]at hY;cases hY;refine⟨i,_,?_,h2,rfl⟩;have:=Bv hn hs i;rw[e9 h1]at this;exact this
   ·right;rw[sg2 j hjs]at hY;refine⟨?_,hY⟩;unfold lM;rw[if_neg oaa];simpa using hjs
  ·left;rw[agl (by rw[hsl];omega),hsl,afY,ag6]at hY;cases hX:obc'[sel.length+(j-ob.length)]? with
   |none=>simp[hX]at hY
   |some X=>rw[hX]at hY;simp only[af6,afM]at hY;refine⟨_,X,?_,hX,hY.symm⟩;unfold lM;rw[if_pos oaa]
 have hoth: ∀j Y,lM sel ob.length j=none->(eu (kk.map f) ob)[j]? =some Y->Y≠ .dead-> ∃Z,ob[j]? =some Z/\Z≠ .dead/\(Y=Z\/Y=mr (kk.map f) Z):=by
  intro j Y hv hY hYd;rw[kO]at hY;cases hkm:kk.map f with
  |nil=>rw[hkm]at hY;exact⟨Y,hY,hYd,.inl rfl⟩
  |cons k ks=>
   rw[hkm]at hY;simp only at hY;cases hZ:ob[j]? with
   |none=>simp[hZ]at hY
   |some Z=>rw[hZ]at hY;simp only[af6,afM]at hY;exact⟨Z,rfl,λe=>hYd (by rw[<-hY,e];rfl),.inr (by rw[<-hY])⟩
 have hapart: ∀j Z b C,lM sel ob.length j=none->ob[j]? =some Z->Z≠ .dead->γ j=some (some (b,C))-> ¬InG (λk=>γ<|f k) b:=by
  rintro j Z b C hv hZ hZd hg ⟨i,C',h⟩;obtain⟨hjn,hjs⟩:=sN hv;by_cases hi1:i<sel.length
  ·have h1:sel[i]? =some sel[i]:=af0 hi1;have h2:obc[i]? =some (obc[i]'oaa):=af0 oaa;obtain⟨h3,h4⟩:=hsel i _ _ h1 h2;simp only[f]at h;rw[e9 h1]at h;have:=hi.sep j _ b C C' ⟨Z,hZ,hZd⟩ ⟨_,h3,by intro e;cases hx:obc[i]'oaa<;>simp_all[Ob.ren]⟩ hg h;exact hjs (this▸List.getElem_mem hi1)
  ·have h':γ (f i)=some (some (b,C')):=h;have:=hi.len (f i) (by rw[h'];simp);simp only[f]at this;rw[kN oaa]at this;omega
 refine⟨γ',hf,htr,hle,⟨hi'.mem,λj Y hY=> ?_,λj j' b C C' l1 l2 h1 h2=> ?_,λj b C h=> ?_,λj h=> ?_⟩⟩
 ·rcases hget j Y hY with⟨i,X,hv,hX,rfl⟩|⟨hv,hY2⟩
  ·obtain⟨h1,_⟩:=lN hv;have h2:=hi'.obj i X hX;have h3:iL m' (λk=>γ'<|f k) w' i X:=by have:(λk=>γ'<|f k)=γc:=funext hf;rw[this];exact h2
   have:=nC.1 h3;rw[show f i=j from h1]at this;exact this
  ·by_cases hYd:Y= .dead
   ·subst hYd;trivial
   ·obtain⟨Z,hZ,hZd,hYZ⟩:=hoth j Y hv hY2 hYd;have hnb:=hapart j Z;have hjk:(kk.map f).contains j=false:=by
     cases hc:(kk.map f).contains j with
     |false=>rfl
     |true=>simp only[List.contains_iff_mem,agm]at hc;obtain⟨k,hk1,hk2⟩:=hc;have hk3:=hkk k hk1;have h1:sel[k]? =some sel[k]:=af0 hk3;simp only[f]at hk2;rw[e9 h1]at hk2;exact absurd (hk2▸List.getElem_mem hk3) (sN hv).2
    have hob:=hi.obj j Z hZ;have hheap: ∀b C,γ j=some (some (b,C))->w'.heap[b]? =w.heap[b]? :=λb C hg=>ht.blk b (hi.dom j b C hg) (hnb b C hv hZ hZd hg);have hmm: ∀b C,γ j=some (some (b,C))-> ∀off,m ⟨b,off,none⟩=none->m' ⟨b,off,none⟩=none:=by
     intro b C hg off hno;cases hm':m' ⟨b,off,none⟩with
     |none=>rfl
     |some x=>
      exfalso;rcases ht.new _ x hm' with h|h|h
      ·rw[hno]at h;cases h
      ·have:=hi.dom j b C hg;simp at h;omega
      ·exact hnb b C hv hZ hZd hg h
    rcases hYZ with rfl|rfl
    ·by_cases hkm:kk.map f=[]
     ·rw[hkm]at hle;exact fP hob hle hheap hmm
     ·
      have hY3:=hY2;rw[kO]at hY3;cases hq:kk.map f with
      |nil=>exact absurd hq hkm
      |cons k ks=>rw[hq]at hY3;simp only[hZ,af6,afM]at hY3;rw[<-hY3,<-hq];exact LK hob hle hjk hheap hmm
    ·exact LK hob hle hjk hheap hmm
 ·obtain⟨Y,hY,hYd⟩:=l1;obtain⟨Y',hY',hYd'⟩:=l2;have dd: ∀{Z:Ob},Z.ren f≠ .dead->Z≠ .dead:=by intro Z hZ e;subst e;exact hZ rfl
  rcases hget j Y hY with⟨i,X,hv,hX,rfl⟩|⟨hv,hY2⟩
  ·rcases hget j' Y' hY' with⟨i',X',hv',hX',rfl⟩|⟨hv',hY2'⟩
   ·rw[hsome j i hv]at h1;rw[hsome j' i' hv']at h2;have:=hi'.sep i i' b C C' ⟨X,hX,dd hYd⟩ ⟨X',hX',dd hYd'⟩ h1 h2;rw[<-(lN hv).1,<-(lN hv').1,this]
   ·exfalso;rw[hsome j i hv]at h1;rw[hnone j' hv']at h2;obtain⟨Z,hZ,hZd,_⟩:=hoth j' Y' hv' hY2' hYd';have hb:=hi.dom j' b C' h2;exact hapart j' Z b C' hv' hZ hZd h2 (ht.gam b hb ⟨i,C,h1⟩)
  ·obtain⟨Z,hZ,hZd,_⟩:=hoth j Y hv hY2 hYd;rw[hnone j hv]at h1;rcases hget j' Y' hY' with⟨i',X',hv',hX',rfl⟩|⟨hv',hY2'⟩
   ·exfalso;rw[hsome j' i' hv']at h2;exact hapart j Z b C hv hZ hZd h1 (ht.gam b (hi.dom j b C h1) ⟨i',C',h2⟩)
   ·obtain⟨Z',hZ',hZd',_⟩:=hoth j' Y' hv' hY2' hYd';rw[hnone j' hv']at h2;exact hi.sep j j' b C C' ⟨Z,hZ,hZd⟩ ⟨Z',hZ',hZd'⟩ h1 h2
 ·cases hv:lM sel ob.length j with
  |none=>rw[hnone j hv]at h;exact agL (hi.dom j b C h) ht.size
  |some i=>rw[hsome j i hv]at h;exact hi'.dom i b C h
 ·rw[hlenb];cases hv:lM sel ob.length j with
  |none=>have:=(sN hv).1;omega
  |some i=>
   rw[hsome j i hv]at h;have h1:=hi'.len i h;have h2:=(lN hv).1;by_cases h3:i<sel.length
   ·have h4:sel[i]? =some sel[i]:=af0 h3;rw[e9 h4]at h2;have:=hs _ (List.getElem_mem h3);omega
   ·rw[kN oaa]at h2;omega
end
end Go.Am
end
