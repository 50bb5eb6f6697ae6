/-
  The tied card of StreamBack is proved: for any input and any tokens the law returns true, and its arguments read behind the call as they read before. Conditions: those of the card itself (the tables of unicode/utf8 as the program's text lays them).
-/
import Derived.Test.YtifnhnkogcgnaaaDoorE14
import Derived.Test.YtifnhnkogcgnaaaDoorFR
import Derived.Test.YtifnhnkogcgnaaaDoorFW
import Derived.Test.YtifnhnkogcgnaaaDoorCards
import Derived.Test.YtifnhnkogcgnaaaDoorTie
namespace Go.Proofs.YtifnhnkogcgnaaaDoor
open Go.ChangeShapes Go.WideShapes Go.ChangeAt Go.RowKit Go.Am

theorem kids : kidsB Tryd.prog = true := by kernel_rfl

set_option maxRecDepth 100000 in
theorem back_contract (H : Type) (enc : TypeId × Value → H) (W : World) (base : Nat) (args : Array Value) (ds gs : List (DataW H)) (before : List MemPlace)
    (hval : ∀ (j : Nat) t v, Tryd.f3.params[j]? = some t → args[j]? = some v → Value.okWide Tryd.prog W .any base t v)
    (hW : DataW.Whole enc Tryd.prog Tryd.f3.params.toList Rows.streamBackSpec.vars false W args.toList ds gs before)
    (hT : ∀ a x, glob a = some x → W.cell? a = some x) :
    Calls Tryd.prog 3 args W fun e W' => ∃ v, e = .returned v ∧ Rows.streamBackSpec.post enc Tryd.prog Tryd.f3 false true false false W args v W' := by
  have hW' := hW
  obtain ⟨p, q, hA, hV, rfl, hfz, hnd⟩ := hW
  have hA' : DataW.TrodAll enc Tryd.prog W 0 (fun _ => true) true Tryd.f3.params.toList args.toList ds p := hA
  rw [Tryd.params3] at hA' hval
  obtain ⟨v0, vs0, d0, ds0, p0, q0, hargs, rfl, rfl, h0, r0⟩ := trodAll_cons hA'
  obtain ⟨v1, vs1, d1, ds1, p1, q1, rfl, rfl, rfl, h1, r1⟩ := trodAll_cons r0
  obtain ⟨rfl, rfl, rfl⟩ := trodAll_nil r1
  obtain rfl : args = #[v0, v1] := by cases args; simp_all
  obtain ⟨bs, hb, hr0⟩ := bytes_rep (hW := hT) (show Tryd.prog.underlying 22 = some (.slice 5) from by kernel_rfl) (by kernel_rfl) (by kernel_rfl) (hval 0 22 v0 rfl rfl) h0
  obtain ⟨F0, F1, F2, F3, hst, k0, k1, k2, k3⟩ : ∃ F0 F1 F2 F3 : Field, Tryd.prog.underlying 43 = some (.struct #[F0, F1, F2, F3]) ∧ (F0.offset = 0 ∧ Tryd.prog.underlying F0.type = some (.int .i64) ∧ Tryd.prog.cellsOf F0.type = 1) ∧ (F1.offset = 1 ∧ Tryd.prog.underlying F1.type = some (.int .i64) ∧ Tryd.prog.cellsOf F1.type = 1) ∧
      (F2.offset = 2 ∧ Tryd.prog.underlying F2.type = some (.int .i64) ∧ Tryd.prog.cellsOf F2.type = 1) ∧ (F3.offset = 3 ∧ Tryd.prog.underlying F3.type = some (.int .i64) ∧ Tryd.prog.cellsOf F3.type = 1) :=
    ⟨⟨ "Type", 3, 0, false, "", "", 0⟩, ⟨ "Channel", 3, 1, false, "", "", 8⟩, ⟨ "From", 3, 2, false, "", "", 16⟩, ⟨ "To", 3, 3, false, "", "", 24⟩, by kernel_rfl, ⟨rfl, by kernel_rfl, by kernel_rfl⟩, ⟨rfl, by kernel_rfl, by kernel_rfl⟩, ⟨rfl, by kernel_rfl, by kernel_rfl⟩, ⟨rfl, by kernel_rfl, by kernel_rfl⟩⟩
  obtain ⟨l, hr1⟩ := toks_rep (hW := hT) (show Tryd.prog.underlying 23 = some (.slice 43) from by kernel_rfl) hst (by kernel_rfl) k0 k1 k2 k3 (hval 1 23 v1 rfl rfl) h1
  refine (calls_of_aret (back_all bs hb l) W hT (vs := [v0, v1]) ⟨_, _, rfl, hr0, _, _, rfl, hr1, rfl⟩).mono fun e W' ⟨he, hk⟩ => ?_
  subst he
  exact ⟨_, rfl, post_true hW' hk kids (by kernel_rfl) rfl (tb := 4) (by kernel_rfl) (by kernel_rfl) rfl rfl rfl⟩

theorem back_laid_met (os : Os) : laidMet Tryd.prog Rows.streamBackRow.laid ((laidWorld os).forCall (fun _ _ => 0) ⟨#[], #[.slice none 0 0, .slice none 0 0], []⟩).memory :=
  laidMet_of_run' 8 (by kernel_rfl) (by kernel_rfl)
theorem back_reads (os : Os) {H : Type} (enc : TypeId × Value → H) : ∃ places, DataW.whole enc Tryd.prog ((laidWorld os).forCall (fun _ _ => 0) ⟨#[], #[.slice none 0 0, .slice none 0 0], []⟩).memory Tryd.f3.params.toList Rows.streamBackSpec.vars false #[Value.slice none 0 0, .slice none 0 0].toList 8 = some ([.nil, .nil], [], places) :=
  ⟨[], by kernel_rfl⟩

set_option maxRecDepth 100000 in
theorem back_lifted (os : Os) (started : os.Started) (H : Type) (enc : TypeId × Value → H) (F : Stop.Interp) :
    ReturnsInHanded {} Tryd.checked os 3 .any ((OpenSpec.ofChange Rows.streamBackSpec).preRow enc Tryd.prog Tryd.f3 Rows.streamBackRow.domain false Rows.streamBackRow.laid) (((OpenSpec.ofChange Rows.streamBackSpec).at F).post enc Tryd.prog Tryd.f3 false true false false) := by
  obtain ⟨places, hx⟩ := back_reads os enc
  refine returnsInHanded_of_row (C := Tryd.checked) (s := OpenSpec.ofChange Rows.streamBackSpec) own started (by kernel_rfl) Tryd.func3
    (witness_row_at (enc := enc) (C := Tryd.checked) false (laidWorld os) #[.slice none 0 0, .slice none 0 0] rfl (by kernel_rfl) (by kernel_rfl) (by kernel_rfl)
      (OpenSpec.preRow_of_cond 8 hx (by kernel_rfl) (fun k hk => by cases hk) (by kernel_rfl) (back_laid_met os))) ?_
  intro W base args ds gs before hval hW _ _ _ hL _ _
  exact back_contract H enc W base args ds gs before hval hW (tabs_known hL)

theorem back_said : Rows.StreamBackSaid :=
  OpenClaim.holds_of_cond 3 Tryd.f3 rfl rfl rfl rfl rfl rfl rfl ⟨rfl, rfl, rfl, rfl, rfl⟩ rfl rfl rfl rfl rfl (by kernel_rfl) Tryd.func3 (by kernel_rfl)
    (of_decide_eq_true (by kernel_rfl)) (by unfold Func.isWrapper; first | (rw [if_pos (by decide +kernel)]; kernel_rfl) | (rw [if_neg (by decide +kernel)]; exact ⟨rfl, rfl⟩))
    (fun os started H enc _ F => by rw [OpenClaim.pre_eq_preRow]; exact back_lifted os started H enc F)

theorem back_plain (f : FuncId) (fn : Func) (hf : Tryd.pinned.checked.prog.funcNamed "pollard/pollardlaw18.StreamBack" = some f) (hfn : Tryd.pinned.checked.prog.funcs[f]? = some fn) :
    false = Tryd.pinned.checked.prog.looks [] ∧ ∀ (j : Nat) t, fn.params[j]? = some t → Tryd.pinned.checked.prog.wantsStandIn t = false := by
  obtain rfl : f = 3 := Option.some.inj ((show Tryd.prog.funcNamed "pollard/pollardlaw18.StreamBack" = some 3 by kernel_rfl).symm.trans hf) |>.symm
  obtain rfl : fn = Tryd.f3 := (Option.some.inj (Tryd.func3.symm.trans hfn)).symm
  refine ⟨by kernel_rfl, fun j t ht => ?_⟩
  rw [Tryd.params3] at ht
  have hm : t = 22 ∨ t = 23 := by simpa using Array.mem_of_getElem? ht
  rcases hm with rfl | rfl
  · exact (show Tryd.prog.wantsStandIn 22 = false by kernel_rfl)
  · exact (show Tryd.prog.wantsStandIn 23 = false by kernel_rfl)

theorem streamBack_card : Rows.StreamBackCardSaid :=
  Claim7.holds_tied_plain_at .later [] _ _ _ _ back_said (fun _ h => by cases h) (by kernel_rfl) (fun _ h => by cases h) streamBack_row_tie rfl ⟨rfl, rfl⟩ (by kernel_rfl) rfl back_plain (by kernel_rfl)
end Go.Proofs.YtifnhnkogcgnaaaDoor
