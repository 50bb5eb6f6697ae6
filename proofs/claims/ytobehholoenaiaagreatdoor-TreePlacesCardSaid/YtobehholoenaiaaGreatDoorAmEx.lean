/-
  An abstract machine, part Ex: calls known on one store alone; functions that are handed live objects and are one loop.
-/
import Derived.Test.YtobehholoenaiaaGreatDoorAmSt
namespace Go.Am
section
variable {P : Program}
/-- a call that is known for these arguments on this store alone -/
noncomputable def knownS (f0 : FuncId) (args0 : List AV) (ob0 : List Ob) (r : AV) (ob1 : List Ob) (callf : CallF) : CallF := fun f args O N tm => cond (Nat.beq f f0) (.ret r (triO ob1) ob1.length (((tm.at N).low (bitsF 0 (Nat.add ob0.length ob1.length))).asks (dec (args = args0 ∧ objsL O N 0 = ob0)))) (callf f args O N tm)
theorem knownS_ok {f0 : FuncId} {args0 : List AV} {ob0 : List Ob} {r : AV} {ob1 : List Ob} {callf : CallF} (h : FRet P f0 args0 ob0 r ob1) (hcf : CallOk P callf) : CallOk P (knownS f0 args0 ob0 r ob1 callf) := fun f args O N tm => by
  unfold knownS
  cases hf : Nat.beq f f0 with
  | false => exact hcf f args O N tm
  | true =>
    have := Nat.eq_of_beq_eq_true hf
    subst this
    simp only [cond_true]
    refine ⟨fun r' O1 N1 t1 e => ?_, fun av O1 N1 t1 e => by cases e⟩
    cases e
    refine ⟨⟨[_], rfl⟩, fun hok ob hO => ?_⟩
    simp only [TM.asks, TM.low, TM.at, allT, Bool.and_eq_true] at hok
    obtain ⟨k1, k2⟩ := dec_true.1 hok.1
    rw [objsL_eq hO] at k2
    subst k1; subst k2
    refine ⟨_, triO_rel ob1, h, fun i hi => ?_⟩
    have hb : tb ((tm.at N).low (bitsF 0 (Nat.add ob.length ob1.length))).lo i = false := hi
    have hge : ob.length + ob1.length ≤ i := by
      rcases un_bitsF (un_low hb).2 with h1 | h1
      · omega
      · simpa using h1
    rw [(triO_rel ob1).2, hO.2, List.getElem?_eq_none (by omega), List.getElem?_eq_none (by omega)]
/-- .. that leaves all as it was -/
noncomputable def knownR (f0 : FuncId) (args0 : List AV) (ob0 : List Ob) (r : AV) (callf : CallF) : CallF := fun f args O N tm => cond (Nat.beq f f0) (.ret r O N ((tm.at N).asks (dec (args = args0 ∧ objsL O N 0 = ob0)))) (callf f args O N tm)
theorem knownR_ok {f0 : FuncId} {args0 : List AV} {ob0 : List Ob} {r : AV} {callf : CallF} (h : FRet P f0 args0 ob0 r ob0) (hcf : CallOk P callf) : CallOk P (knownR f0 args0 ob0 r callf) := fun f args O N tm => by
  unfold knownR
  cases hf : Nat.beq f f0 with
  | false => exact hcf f args O N tm
  | true =>
    have := Nat.eq_of_beq_eq_true hf
    subst this
    simp only [cond_true]
    refine ⟨fun r' O1 N1 t1 e => ?_, fun av O1 N1 t1 e => by cases e⟩
    cases e
    refine ⟨⟨[_], rfl⟩, fun hok ob hO => ?_⟩
    simp only [TM.asks, TM.at, allT, Bool.and_eq_true] at hok
    obtain ⟨k1, k2⟩ := dec_true.1 hok.1
    rw [objsL_eq hO] at k2
    subst k1; subst k2
    exact ⟨_, hO, h, fun i _ => rfl⟩
/-- a call by its run, on a store -/
theorem fret_of_run {callf : CallF} (hcf : CallOk P callf) {f : FuncId} {tm : TM} {args : List AV} {ob obs : List Ob} {r : AV} {ok : List Bool} (h : outC (callf f args (triO ob) ob.length tm) = some (r, obs.map some, ok)) (hok : allT ok = true) : FRet P f args ob r obs := by
  cases hc : callf f args (triO ob) ob.length tm with
  | fail => rw [hc] at h; cases h
  | pan av O N t => rw [hc] at h; cases h
  | ret r1 O N t =>
    rw [hc] at h
    simp only [outC, Option.some.injEq, Prod.mk.injEq] at h
    obtain ⟨rfl, h2, rfl⟩ := h
    obtain ⟨ob1, k1, k2, _⟩ := ((hcf f args (triO ob) ob.length tm).1 _ _ _ _ hc).2 hok ob (triO_rel ob)
    have : ob1 = obs := by
      have hl : obs.length = N := by have := congrArg List.length h2; simpa using this.symm
      apply List.ext_getElem?
      intro i
      rw [← k1.2]
      by_cases hi : i < N
      · have h3 : ((List.range N).map O.get)[i]? = some (O.get i) := by simp [hi]
        rw [h2, List.getElem?_map] at h3
        cases ho : obs[i]? with
        | none => rw [ho] at h3; cases h3
        | some X => rw [ho] at h3; simp at h3; exact h3.symm
      · rw [k1.2, List.getElem?_eq_none (by rw [k1.1]; omega), List.getElem?_eq_none (by omega)]
    rw [← this]; exact k2
variable {n : Nat} {callf : CallF} {pu : FuncId → Bool} {lf : Nat}
theorem awp_preD {K : Nat} {df : Option Nat} {c : Code} {Q : APost} {L' L : Loc} {ob' ob : List Ob} {sel : List Nat} (hv : ViewD K L' ob' L ob sel) (h : awp df P n K [] c Q L ob) : awp df P n K [] c Q L' ob' := by
  intro m γ w a hi hl hs hd
  have hi2 := inv_selD hi hv.nodup hv.len hv.obs
  have hl2 : RepLoc m (fun k => γ (fsel sel ob'.length k)) a L := fun t av e => by
    obtain ⟨q1, q2⟩ := hl t _ (hv.slots t av e)
    exact ⟨q1, (rep_ren av _).2 q2⟩
  refine wpIn_mono (h m _ w a hi2 hl2 hs hd) ?_
  rintro e a1 w1 ⟨m1, γ1, L1, ob1, ax, h1, h2, h3, h4, h5, h6, h7, h8⟩
  refine ⟨m1, γ1, L1, ob1, ax, h1, h2, ⟨h3.mem, fun a x hx => ?_, fun k hk hg => ?_, h3.os, h3.tape, h3.output, h3.size, fun k hk hn => h3.blk k hk fun ⟨o, C, ho⟩ => hn ⟨_, C, ho⟩⟩, h4, h5, h6, h7, fun o g ho hg => h8 o g ho (by
    show γ (fsel sel ob'.length o) = some g
    rw [fsel_lt (hv.same o ho.1)]; exact hg)⟩
  · rcases h3.new a x hx with h | h | ⟨o, C, ho⟩
    · exact .inl h
    · exact .inr (.inl h)
    · exact .inr (.inr ⟨_, C, ho⟩)
  · obtain ⟨o, C, ho⟩ := h3.gam k hk hg
    exact ⟨_, C, ho⟩
/-- .. a beginning, by its run -/
theorem awp_headD {K : Nat} (hcf : CallOk P callf) (hm : P.follows .mixedOrders = true) {hs : List Code} {args : List AV} {L' : Loc} {ob ob' : List Ob} {sel : List Nat} {gd : List Gi} {ok : List Bool} {N' : Nat} {SL : List (Option AV)} {SO : List (Option Ob)} {rest : Code} {Q : APost}
    (h : outR (L'.map (·.1)) sel (runL P n callf pu lf hs (argT 0 args .e) (triO ob) ob.length ⟨0, gd, []⟩) = some (.normal, SL, SO, N', ok)) (hok : allT ok = true)
    (hn : nodupL sel = true) (hK : (List.range K).all (fun i => sel[i]? == some i) = true) (h2 : renL (fsel sel N') L' = SL) (h3 : ToldL (fsel sel N') SO ob') (k : awp none P n K [] rest Q L' ob') : awp none P n K [] (seqs hs rest) Q (argLoc 0 args) ob := by
  cases hr : runL P n callf pu lf hs (argT 0 args .e) (triO ob) ob.length ⟨0, gd, []⟩ with
  | fail => rw [hr] at h; cases h
  | ok x1 M1 O1 N1 t1 =>
    rw [hr] at h
    simp only [outR, Option.some.injEq, Prod.mk.injEq] at h
    obtain ⟨rfl, q2, q3, rfl, rfl⟩ := h
    refine (runL_ok hcf hm hs hr).2 hok (argLoc 0 args) ob (relM_argT args) (triO_rel ob) K _ _ fun L1 ob1 hM hO => ?_
    have hl1 : ob1.length = N1 := hO.1
    rw [← q3] at h3
    obtain ⟨t1, t2⟩ := toldL_get h3
    exact awp_preD ⟨nodupL_spec hn, by simpa using t1, fun i s X hi hX => by
      obtain ⟨Y, k1, k2⟩ := t2 i X hX
      rw [List.getElem?_map, hi] at k1
      simp only [Option.map_some, Option.some.injEq] at k1
      exact ⟨Y, by rw [← hO.2]; exact k1, by rw [hl1]; exact k2⟩, fun i hi => by
      have := List.all_eq_true.1 hK i (List.mem_range.2 hi)
      simpa using this, fun t av e => by
      rw [← hM t, hl1]
      exact lk_of_map (q2.trans h2.symm) t av e⟩ k
/-- a loop and what is behind it -/
theorem awp_loopD {K id : Nat} {c B : Code} {Q : APost} {ι : Type} (L : ι → Loc) (Bs : ι → List Ob) (I : ι → Prop) (μ : ι → Nat)
    (round : ∀ x, I x → (∃ y, I y ∧ μ y < μ x ∧ Piece P n K c (L x) (Bs x) .normal (L y) (Bs y)) ∨ (∃ Lx Bx, Piece P n K c (L x) (Bs x) (.exit id) Lx Bx ∧ awp none P n K [] B Q Lx Bx)) (x : ι) (hx : I x) :
    awp none P n K [] (.seq (.block id (.loop c)) B) Q (L x) (Bs x) :=
  awp_seq (awp_block (awp_rounds (.inl rfl) L Bs I μ (fun y hy => by
    rcases round y hy with h | ⟨Lx, Bx, h1, h2⟩
    · exact .inl h
    · exact .inr ⟨.exit id, Lx, Bx, by simp, blk_same h2, h1⟩) x hx))
/-- the end of a function, by its run -/
theorem awp_tailD {K : Nat} (hcf : CallOk P callf) (hm : P.follows .mixedOrders = true) {fn : Func} {B : Code} {L : Loc} {ob obs : List Ob} {r : AV} {gd : List Gi} {SO : List (Option Ob)} {ok : List Bool}
    (h : lastC P fn.results.toList obs.length (runCode P fn.ntmps callf pu lf B (triM L) (triO ob) ob.length ⟨ob.length, gd, []⟩) = some (r, SO, ok)) (hok : allT ok = true) (h3 : obs.map some = SO) :
    awp none P fn.ntmps K [] B (bodyA P fn fun e o => e = .ret r ∧ ∃ xs, o = obs ++ xs) L ob := by
  cases hr : runCode P fn.ntmps callf pu lf B (triM L) (triO ob) ob.length ⟨ob.length, gd, []⟩ with
  | fail => rw [hr] at h; simp [lastC] at h
  | ok x3 M3 O3 N3 t3 =>
    rw [hr] at h
    have aux : ∀ avs, resE P M3 O3 fn.results.toList = some avs → resOf avs = r → (List.range obs.length).map O3.get = obs.map some → ∀ L3 ob3, RelM M3 L3 → RelO O3 N3 ob3 → ∃ avs, ResV P L3 ob3 fn.results.toList avs ∧ (AEnd.ret (resOf avs) = .ret r ∧ ∃ xs, ob3 = obs ++ xs) := fun avs ha hb hc L3 ob3 hM3 hO3 => ⟨avs, resE_ok hM3 hO3 ha, by rw [hb], range_get rfl hc hO3⟩
    obtain ⟨e3, hrun3⟩ := runCode_ok hcf hm lf B hr
    have fin : ok = t3.ok ∧ ∀ L3 ob3, RelM M3 L3 → RelO O3 N3 ob3 → bodyA P fn (fun e o => e = .ret r ∧ ∃ xs, o = obs ++ xs) x3 L3 ob3 := by
      cases x3 with
      | normal =>
        simp only [lastC] at h
        split at h
        · rename_i avs ha
          simp only [Option.some.injEq, Prod.mk.injEq] at h
          exact ⟨h.2.2.symm, fun L3 ob3 hM3 hO3 => aux avs ha h.1 (h.2.1.trans h3.symm) L3 ob3 hM3 hO3⟩
        · cases h
      | ret =>
        simp only [lastC] at h
        split at h
        · rename_i avs ha
          simp only [Option.some.injEq, Prod.mk.injEq] at h
          exact ⟨h.2.2.symm, fun L3 ob3 hM3 hO3 => aux avs ha h.1 (h.2.1.trans h3.symm) L3 ob3 hM3 hO3⟩
        · cases h
      | _ => simp [lastC] at h
    obtain ⟨rfl, k3⟩ := fin
    exact (((hrun3 hok ⟨L, ob, triM_rel _, triO_rel _⟩).2 _ _ (triM_rel _) (triO_rel _)).2 none K _ (.inl rfl)) fun L3 ob3 hM3 hO3 => k3 L3 ob3 hM3 hO3
end
end Go.Am
