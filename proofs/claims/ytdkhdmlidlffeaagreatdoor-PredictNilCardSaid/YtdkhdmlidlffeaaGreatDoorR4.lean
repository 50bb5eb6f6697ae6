/- The grammar that the law speaks of. -/
import Derived.Test.YtdkhdmlidlffeaaGreatDoorR2
namespace Go.Proofs.YtdkhdmlidlffeaaGreatDoor
open Go.Am
/-- reading the text, known ahead -/
noncomputable def knownRd (callf : CallF) : CallF := fun f args O N tm => cond (Nat.beq f 35) (match args with
  | [.v z, .sr o 1 0 k] => .ret (.tu [gF, eF]) O N ((tm.at N).asks (dec (z = .int .i64 0 ∧ k = 53 ∧ O.get o = some (.row 5 1 txt))))
  | _ => .fail) (callf f args O N tm)
theorem knownRd_ok {callf : CallF} (hcf : CallOk Tryz.prog callf) : CallOk Tryz.prog (knownRd callf) := fun f args O N tm => by
  unfold knownRd
  cases hf : Nat.beq f 35 with
  | false => exact hcf f args O N tm
  | true =>
    have := Nat.eq_of_beq_eq_true hf
    subst this
    simp only [cond_true]
    split
    · rename_i z o k
      refine ⟨fun r' O1 N1 t1 e => ?_, fun av O1 N1 t1 e => by cases e⟩
      cases e
      refine ⟨⟨[_], rfl⟩, fun hok ob hO => ?_⟩
      simp only [TM.asks, TM.at, allT, Bool.and_eq_true] at hok
      obtain ⟨rfl, rfl, ho⟩ := dec_true.1 hok.1
      have h := aret_sel read_ret (fun g => rfl) (by simp) rfl (ob := ob) (o := o) (by rw [← hO.2]; exact ho)
      refine ⟨ob, hO, fret_of rfl ?_, fun i hi => rfl⟩
      have hren : renVals (fsel [o] ob.length) [.v (.int .i64 0), .sr 0 1 0 53] = [.v (.int .i64 0), .sr o 1 0 53] := rfl
      rw [hren] at h
      exact h
    · exact call_none _ _ _ O N tm
noncomputable def kn4 : CallF := known1 36 (fun args => args = [gF]) (fun _ => .tu [nF, .v (.int .i64 0)]) (knownRd (runFn Tryz.prog (fun _ => false) 3000 60))
theorem kn4_ok : CallOk Tryz.prog kn4 := known1_ok (fun args h => by subst h; exact ⟨net_ret, rfl, rfl⟩) (knownRd_ok (runFn_ok mixed _ _ _))
theorem grammar_run : runOne Tryz.prog (fun _ => false) 3000 kn4 20 [] .e 0 ⟨0, [], []⟩ = .ret nF .e 0 ⟨0, [], [dec ([gF] = [gF]), dec (Value.int .i64 0 = .int .i64 0 ∧ 53 = 53 ∧ some (Ob.row 5 1 txt) = some (.row 5 1 txt))]⟩ := by kernel_rfl
theorem grammar_ret : ARet Tryz.prog 20 [] [] [] nF [] :=
  ret_of_run (runOne_ok kn4_ok mixed _ _) grammar_run (by
    have a : dec ([gF] = [gF]) = true := dec_true.2 rfl
    have b : dec (Value.int .i64 0 = .int .i64 0 ∧ 53 = 53 ∧ some (Ob.row 5 1 txt) = some (.row 5 1 txt)) = true := dec_true.2 ⟨rfl, rfl, rfl⟩
    show (dec _ && (dec _ && true)) = true
    rw [a, b]
    rfl)
end Go.Proofs.YtdkhdmlidlffeaaGreatDoor
