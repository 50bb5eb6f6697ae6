/- The tied card of NetEnds is proved: whatever the input the law returns true, and its arguments read behind the call as they read before. Conditions: those of the card itself (the listed tables as the program's text lays them). -/
import Derived.Test.YtfkjfjalecikkaaGreatDoorCards
import Derived.Test.YtfkjfjalecikkaaGreatDoorTie
import Derived.Test.YtfkjfjalecikkaaGreatDoorDH
noncomputable section
open List (length map range replicate)
namespace Go.Proofs.YtfkjfjalecikkaaGreatDoor
open Go.ChangeShapes Go.WideShapes Go.ChangeAt Go.RowKit Go.Am
theorem kids:MZ Tryz.prog=true:=by kernel_rfl
theorem UM (W:World): ∀a x,B3 a=some x->W.cell? a=some x:=fun a x h=>by simp [B3,O4] at h;split at h<;>cases h
set_option maxRecDepth 100000 in
theorem UN (H:Type) (enc:TypeId×Value->H) (W:World) (base:Nat) (args:Array Value) (ds gs:List (DataW H)) (before:List MemPlace)
  (hval: ∀(j:Nat) t v,Tryz.f4.params[j]? =some t->args[j]? =some v->Value.okWide Tryz.prog W .any base t v)
  (hW:DataW.Whole enc Tryz.prog Tryz.f4.params.toList Rows.netEndsSpec.vars false W args.toList ds gs before)
  (hz: ∀w∈DataW.weightsEach Tryz.prog (Tryz.f4.params.toList++ []) (ds++gs),w<=reachBytes):
  Calls Tryz.prog 4 args W fun e W' => ∃v,e= .returned v/\Rows.netEndsSpec.post enc Tryz.prog Tryz.f4 false true false false W args v W' :=by
 have hW' :=hW
 obtain ⟨p,q,hA,hV,rfl,hfz,hnd⟩:=hW
 have hA' :DataW.TrodAll enc Tryz.prog W 0 (fun _=>true) true Tryz.f4.params.toList args.toList ds p:=hA
 rw [Tryz.params4] at hA' hval hz
 obtain ⟨v0,vs0,d0,ds0,p0,q0,hargs,rfl,rfl,h0,r0⟩:=trodAll_cons hA'
 obtain ⟨rfl,rfl,rfl⟩:=trodAll_nil r0
 obtain rfl:args= #[v0]:=by cases args;simp_all
 obtain ⟨t0,ft0,hr0⟩:=WC (hW:=UM W) (hval 0 26 v0 rfl rfl) h0 fun w hw=>hz w (iM (i:=0) rfl rfl w hw)
 refine (Cp (UL t0 ft0) W (UM W) (vs:=[v0]) ⟨_,_,rfl,hr0,rfl⟩).mono fun e W' ⟨he,hk⟩=> ?_
 subst he
 exact ⟨_,rfl,OX hW' hk kids oaa rfl (tb:=4) oaa oaa rfl rfl rfl⟩
theorem UO (os:Os):laidMet Tryz.prog Rows.netEndsRow.laid ((tX os).forCall (fun _ _=>0) ⟨#[],#[.agg #[.slice none 0 0,.slice none 0 0,.slice none 0 0,.slice none 0 0,.slice none 0 0]],[]⟩).memory:=
 laidMet_of_run' 8 oaa oaa
theorem reads (os:Os) {H:Type} (enc:TypeId×Value->H): ∃places,DataW.whole enc Tryz.prog ((tX os).forCall (fun _ _=>0) ⟨#[],#[.agg #[.slice none 0 0,.slice none 0 0,.slice none 0 0,.slice none 0 0,.slice none 0 0]],[]⟩).memory Tryz.f4.params.toList Rows.netEndsSpec.vars false #[.agg #[.slice none 0 0,.slice none 0 0,.slice none 0 0,.slice none 0 0,.slice none 0 0]].toList 8=some ([.agg [.nil,.nil,.nil,.nil,.nil]],[],places):=
 ⟨[],by kernel_rfl⟩
set_option maxRecDepth 100000 in
theorem lifted (os:Os) (started:os.Started) (H:Type) (enc:TypeId×Value->H) (F:Stop.Interp):
  ReturnsInHanded {} Tryz.checked os 4 .any ((OpenSpec.ofChange Rows.netEndsSpec).preRow enc Tryz.prog Tryz.f4 Rows.netEndsRow.domain false Rows.netEndsRow.laid) (((OpenSpec.ofChange Rows.netEndsSpec).at F).post enc Tryz.prog Tryz.f4 false true false false):=by
 obtain ⟨places,hx⟩:=reads os enc
 refine returnsInHanded_of_row (C:=Tryz.checked) (s:=OpenSpec.ofChange Rows.netEndsSpec) own started oaa Tryz.func4
  (witness_row_at (enc:=enc) (C:=Tryz.checked) false (tX os) #[.agg #[.slice none 0 0,.slice none 0 0,.slice none 0 0,.slice none 0 0,.slice none 0 0]] rfl oaa oaa oaa
   (OpenSpec.preRow_of_cond 8 hx oaa (fun k hk=>by cases hk) oaa (UO os))) ?_
 intro W base args ds gs before hval hW _ _ hz hL _ _
 exact UN H enc W base args ds gs before hval hW fun w hw=>of_decide_eq_true (List.all_eq_true.1 hz w hw)
theorem said:Rows.NetEndsSaid:=
 OpenClaim.holds_of_cond 4 Tryz.f4 rfl rfl rfl rfl rfl rfl rfl ⟨rfl,rfl,rfl,rfl,rfl⟩ rfl rfl rfl rfl rfl oaa Tryz.func4 oaa
  (of_decide_eq_true oaa) (by unfold Func.isWrapper;first|(rw [if_pos (by decide+kernel)];kernel_rfl)|(rw [if_neg (by decide+kernel)];exact ⟨rfl,rfl⟩))
  (fun os started H enc _ F=>by rw [OpenClaim.pre_eq_preRow];exact lifted os started H enc F)
theorem plain (f:FuncId) (fn:Func) (hf:Tryz.pinned.checked.prog.funcNamed "pollard/pollardlaw11.NetEnds" =some f) (hfn:Tryz.pinned.checked.prog.funcs[f]? =some fn):
  false=Tryz.pinned.checked.prog.looks []/\ ∀(j:Nat) t,fn.params[j]? =some t->Tryz.pinned.checked.prog.wantsStandIn t=false:=by
 obtain rfl:f=4:=Option.some.inj ((show Tryz.prog.funcNamed "pollard/pollardlaw11.NetEnds" =some 4 by kernel_rfl).symm.trans hf)|>.symm
 obtain rfl:fn=Tryz.f4:=(Option.some.inj (Tryz.func4.symm.trans hfn)).symm
 refine ⟨by kernel_rfl,fun j t ht=> ?_⟩
 rw [Tryz.params4] at ht
 have hm:t=26:=by simpa using Array.mem_of_getElem? ht
 subst hm
 exact (show Tryz.prog.wantsStandIn 26=false by kernel_rfl)
theorem netEnds_card:Rows.NetEndsCardSaid:=
 Claim7.holds_tied_plain_at .later [] _ _ _ _ said (fun _ h=>by cases h) oaa (fun _ h=>by cases h) netEnds_row_tie rfl ⟨rfl,rfl⟩ oaa rfl plain oaa
end Go.Proofs.YtfkjfjalecikkaaGreatDoor
end
