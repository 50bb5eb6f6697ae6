/-
  An abstract machine, part Fz: an object becomes memory that is never written again; calls told by other values; calls that make objects, known ahead.
-/
import Derived.Test.YtobehholoenaiaaGreatDoorAmZ
namespace Go.Am

/-- A value, told anew behind a freezing. -/
def Frz (o : Nat) (X : Ob) (av av' : AV) : Prop := ∀ m γ m', FrzM m γ o X m' → ∀ x, Rep m γ av x → Rep m' γ av' x
def FrzL (o : Nat) (X : Ob) (cs cs' : List AV) : Prop := ∀ m γ m', FrzM m γ o X m' → ∀ xs, RepVals m γ cs xs → RepVals m' γ cs' xs
section
variable {o : Nat} {X : Ob}
theorem Frz.same (av : AV) : Frz o X av av := fun _m _γ _m' h x hr => rep_le h.le av x (AV.free_nil _) hr
theorem FrzL.nil : FrzL o X [] [] := fun _ _ _ _ _ h => by simpa only [RepVals] using h
theorem FrzL.cons {c c' : AV} {cs cs' : List AV} (h : Frz o X c c') (k : FrzL o X cs cs') : FrzL o X (c :: cs) (c' :: cs') := fun m γ m' hm xs hr => by
  simp only [RepVals] at hr ⊢
  obtain ⟨x, r, rfl, h1, h2⟩ := hr
  exact ⟨x, r, rfl, h m γ m' hm x h1, k m γ m' hm r h2⟩
theorem FrzL.same (cs : List AV) : FrzL o X cs cs := fun _m _γ _m' h xs hr => repVals_le h.le cs xs (freeVals_nil _) hr
theorem Frz.tu {cs cs' : List AV} (h : FrzL o X cs cs') : Frz o X (.tu cs) (.tu cs') := fun m γ m' hm x hr => by
  simp only [Rep] at hr ⊢
  obtain ⟨xs, h1, h2⟩ := hr
  exact ⟨xs, h1, h m γ m' hm xs h2⟩
theorem Frz.ag {cs cs' : List AV} (h : FrzL o X cs cs') : Frz o X (.ag cs) (.ag cs') := fun m γ m' hm x hr => by
  simp only [Rep] at hr ⊢
  obtain ⟨xs, h1, h2⟩ := hr
  exact ⟨xs, h1, h m γ m' hm xs h2⟩
theorem Frz.sr {T S lo len : Nat} {rows : List (List AV)} (hX : X = .row T S rows) (h : lo + len ≤ rows.length) : Frz o X (.sr o S lo len) (.sl S ((rows.drop lo).take len)) := fun m γ m' hm x hr => by
  simp only [Rep] at hr ⊢
  have hl : ((rows.drop lo).take len).length = len := by simp; omega
  rcases hr with ⟨_, ⟨a, rfl⟩, rfl, rfl⟩ | ⟨b, C, cap, g1, g2, g3, g4, g5⟩
  · exact ⟨a, 0, 0, rfl, by simp, Nat.le_refl _, .inl (by simp)⟩
  · rcases g5 with rfl | ⟨rfl, _, a, rfl⟩
    · refine ⟨_, _, _, rfl, hl.symm, g3, ?_⟩
      rcases hm.row T S rows hX with ⟨h1, _⟩ | ⟨b', C', h1, _, h3⟩
      · rw [g1] at h1; cases h1
      · rw [g1] at h1
        cases h1
        refine .inr ⟨b, lo * S, rfl, repRows_take ?_ len⟩
        have := repRows_drop h3 lo
        rwa [Nat.zero_add] at this
    · exact ⟨_, _, _, rfl, hl.symm, g3, .inl (by simp)⟩
theorem Frz.sr0 {T S n : Nat} {rows : List (List AV)} (hX : X = .row T S rows) (h : n = rows.length) : Frz o X (.sr o S 0 n) (.sl S rows) := by
  have := Frz.sr (o := o) (lo := 0) (len := n) hX (by omega)
  rwa [List.drop_zero, List.take_of_length_le (by omega)] at this
theorem Frz.pt {Tb : TypeId} {cells : List AV} {off : Nat} (hX : X = .box Tb cells) : Frz o X (.pt o off) (.pf (cells.drop off)) := fun m γ m' hm x hr => by
  simp only [Rep] at hr ⊢
  obtain ⟨b, C, g1, rfl⟩ := hr
  obtain ⟨b', h1, h2⟩ := hm.box Tb cells hX
  rw [g1] at h1
  cases h1
  exact ⟨b, off, rfl, by have := repCells_drop h2 off; rwa [Nat.zero_add] at this⟩
end
/-- .. and an object -/
inductive FrzOb (o : Nat) (X : Ob) : Ob → Ob → Prop
  | same (Y : Ob) : FrzOb o X Y Y
  | box {T : TypeId} {cs cs' : List AV} (h : FrzL o X cs cs') : FrzOb o X (.box T cs) (.box T cs')
  | any (Y : Ob) : FrzOb o X Y .dead
theorem inv_tell {m : Mem} {γ : Gam} {ob ob2 : List Ob} {w : World} (hi : Inv m γ ob w) (hl : ob2.length = ob.length) (h : ∀ (i : Nat) (Y : Ob), ob2[i]? = some Y → Y = .dead ∨ (live ob i ∧ ObAt m γ w i Y)) : Inv m γ ob2 w := by
  have hlv : ∀ q, live ob2 q → live ob q := by
    rintro q ⟨Y, hY, hne⟩
    rcases h q Y hY with rfl | h1
    · exact absurd rfl hne
    · exact h1.1
  refine ⟨hi.mem, fun q Y hY => ?_, fun q q' b C C' l1 l2 => hi.sep q q' b C C' (hlv q l1) (hlv q' l2), hi.dom, fun q hq => by rw [hl]; exact hi.len q hq⟩
  rcases h q Y hY with rfl | h1
  · trivial
  · exact h1.2
section
variable {P : Program} {f : FuncId} {args : List AV} {ob ob1 ob2 : List Ob} {kk : List Nat} {r r' : AV}
/-- A CALL'S OBJECT IS FROZEN. -/
theorem aret_frz (h : ARet P f args ob kk r ob1) {o : Nat} {X : Ob} (ho : ob1[o]? = some X) (hX : (∃ T S rows, X = .row T S rows) ∨ ∃ Tb cells, X = .box Tb cells) (hr : Frz o X r r') (hl : ob2.length = ob1.length)
    (hob : ∀ i Y Y', ob1[i]? = some Y → ob2[i]? = some Y' → Y' = .dead ∨ (i ≠ o ∧ FrzOb o X Y Y')) : ARet P f args ob kk r' ob2 := by
  refine ⟨h.1, fun m γ w vs hi hv => (h.2 m γ w vs hi hv).mono ?_⟩
  rintro e w' ⟨m', γ', r0, o0, ⟨rfl, rfl⟩, h2, h3, h4, h5⟩
  obtain ⟨m2, hm, hi2, ht⟩ := inv_freeze h4 ho hX
  have e1 : EndRep m2 γ' e (.ret r') := by
    cases e with
    | returned v => exact hr _ _ _ hm v h2
    | panicked c => exact h2.elim
    | outgrown => exact h2.elim
  refine ⟨m2, γ', _, ob2, ⟨rfl, rfl⟩, e1, h3.trans ht, inv_tell hi2 (by rw [hl, List.length_set]) fun i Y' hY' => ?_, h5⟩
  have hlt := (List.getElem?_eq_some_iff.1 hY').1
  obtain ⟨Y, hY⟩ : ∃ Y, o0[i]? = some Y := ⟨_, List.getElem?_eq_getElem (by omega)⟩
  by_cases hd : Y' = .dead
  · exact .inl hd
  rcases hob i Y Y' hY hY' with h6 | ⟨hne, h6⟩
  · exact .inl h6
  · have hset : (o0.set o Ob.dead)[i]? = some Y := by rw [List.getElem?_set_ne (Ne.symm hne)]; exact hY
    cases h6 with
    | same => exact .inr ⟨⟨_, hset, hd⟩, hi2.obj i _ hset⟩
    | any => exact .inl rfl
    | box hcs =>
      refine .inr ⟨⟨_, hset, by simp⟩, ?_⟩
      obtain ⟨b, cs, g1, g2, g3, g4⟩ := hi2.obj i _ hset
      obtain ⟨b', cs', g1', g2', g3', _⟩ := h4.obj i _ hY
      rw [g1] at g1'
      cases g1'
      rw [g2] at g2'
      cases g2'
      exact ⟨b, cs, g1, g2, hcs _ _ _ hm _ g3', g4⟩
/-- .. and the objects that nobody names forgotten -/
theorem aret_fin (h : ARet P f args [] [] r ob1) (hr : r.und 0 = true) : ARet P f args [] [] r [] :=
  aret_drop (h.mono fun e o hh => ⟨hh.1, ob1, by rw [hh.2]; rfl⟩) (Nat.le_refl _) hr rfl
/-- a slice that was made -/
theorem aret_row {T S n : Nat} {rows : List (List AV)} (h : ARet P f args [] [] (.sr 0 S 0 n) [.row T S rows]) (hn : n = rows.length) (hp : pureRows rows = true) : ARet P f args [] [] (.sl S rows) [] :=
  aret_fin (aret_frz (ob2 := [.dead]) h (o := 0) rfl (.inl ⟨_, _, _, rfl⟩) (Frz.sr0 rfl hn) rfl (fun i Y Y' _ h2 => .inl (by
    cases i with
    | zero => simp at h2; exact h2.symm
    | succ i => simp at h2))) (by simp [AV.und, undRows_pure 0 rows hp])
/-- a result told with less -/
theorem aret_weak (h : ARet P f args ob kk r ob1) (hr : ∀ m γ x, Rep m γ r x → Rep m γ r' x) : ARet P f args ob kk r' ob1 := by
  refine ⟨h.1, fun m γ w vs hi hv => (h.2 m γ w vs hi hv).mono ?_⟩
  rintro e w' ⟨m', γ', r0, o0, ⟨rfl, rfl⟩, h2, h3, h4, h5⟩
  refine ⟨m', γ', _, _, ⟨rfl, rfl⟩, ?_, h3, h4, h5⟩
  cases e with
  | returned v => exact hr _ _ _ h2
  | panicked c => exact h2.elim
  | outgrown => exact h2.elim
theorem weak_nil {m : Mem} {γ : Gam} {S : Nat} {a : Option Addr} {cap : Nat} (x : Value) (h : Rep m γ (.v (.slice a 0 cap)) x) : Rep m γ (.sl S []) x := by
  simp only [Rep] at h ⊢
  exact ⟨a, 0, cap, h, by simp, Nat.zero_le _, by simp⟩
/-- arguments told otherwise, by cases -/
theorem aret_case (hf : ∃ fn, P.funcs[f]? = some fn ∧ (fn.name == "runtime.NumGoroutine") = false ∧ fn.body.isNone = false) (h : ∀ m γ vs, RepVals m γ args vs → ∃ args', RepVals m γ args' vs ∧ ARet P f args' ob kk r ob1) : ARet P f args ob kk r ob1 :=
  ⟨hf, fun m γ w vs hi hv => by
    obtain ⟨args', h1, h2⟩ := h m γ vs hv
    exact h2.2 m γ w vs hi h1⟩
/-- .. known ahead -/
noncomputable def knownP (f0 : FuncId) (ok : List AV → Prop) (r : List AV → Nat → AV) (obs : List AV → Nat → List Ob) (callf : CallF) : CallF := fun f args O N tm => cond (Nat.beq f f0) (.ret (r args N) (triOk N (obs args N) O) (N + (obs args N).length) (((tm.at N).low (bitsF N (obs args N).length)).asks (dec (ok args)))) (callf f args O N tm)
theorem knownP_ok {f0 : FuncId} {ok : List AV → Prop} {r : List AV → Nat → AV} {obs : List AV → Nat → List Ob} {callf : CallF} (h : ∀ args, ok args → ∃ r0 obs0, ARet P f0 args [] [] r0 obs0 ∧ pureVals args = true ∧ ∀ N, r0.ren (fsel [] N) = r args N ∧ obs0.map (Ob.ren (fsel [] N)) = obs args N) (hcf : CallOk P callf) (hY : Nat.blt f0 yBase = true := by rfl) : CallOk P (knownP f0 ok r obs callf) := fun f args O N tm => by
  unfold knownP
  cases hf : Nat.beq f f0 with
  | false => exact hcf f args O N tm
  | true =>
    have := Nat.eq_of_beq_eq_true hf
    subst this
    simp only [cond_true]
    refine ⟨fun r' O1 N1 t1 e => ?_, fun av O1 N1 t1 e => by cases e⟩
    cases e
    refine ⟨⟨[_], rfl⟩, fun hok ob hO => ?_⟩
    simp only [TM.asks, TM.low, TM.at, allT, Bool.and_eq_true] at hok
    obtain ⟨r0, obs0, k1, k2, k3⟩ := h args (dec_true.1 hok.1)
    have hrel := triOk_rel (obs args N) O N ob hO
    refine ⟨_, hrel, ?_, fun i hi => ?_⟩
    · have := aret_push k1 k2 ob
      rw [hO.1, (k3 N).1, (k3 N).2] at this
      exact fret_of hY this
    · have hb : tb ((tm.at N).low (bitsF N (obs args N).length)).lo i = false := hi
      rw [hrel.2, hO.2]
      rcases un_bitsF (un_low hb).2 with h1 | h1
      · rw [List.getElem?_append_left (by rw [hO.1]; exact h1)]
      · rw [List.getElem?_eq_none (by rw [List.length_append, hO.1]; exact h1), List.getElem?_eq_none (by rw [hO.1]; omega)]
/-- what a call's run gives, to look at -/
noncomputable def outC : CR → Option (AV × List (Option Ob) × List Bool)
  | .ret r O N t => some (r, (List.range N).map O.get, t.ok)
  | _ => none
theorem aret_of_run {callf : CallF} (hcf : CallOk P callf) {tm : TM} {obs : List Ob} {ok : List Bool} (h : outC (callf f args .e 0 tm) = some (r, obs.map some, ok)) (hok : allT ok = true) (hY : Nat.blt f yBase = true := by rfl) : ARet P f args [] [] r obs := by
  cases hc : callf f args .e 0 tm with
  | fail => rw [hc] at h; cases h
  | pan av O N t => rw [hc] at h; cases h
  | ret r1 O N t =>
    rw [hc] at h
    simp only [outC, Option.some.injEq, Prod.mk.injEq] at h
    obtain ⟨rfl, h2, rfl⟩ := h
    obtain ⟨ob1, k1, k2, _⟩ := ((hcf f args .e 0 tm).1 _ _ _ _ hc).2 hok [] RelO.nil
    have : ob1 = obs := by
      have hl : obs.length = N := by have := congrArg List.length h2; simpa using this.symm
      apply List.ext_getElem?
      intro i
      rw [← k1.2]
      by_cases hi : i < N
      · have h3 : ((List.range N).map O.get)[i]? = some (O.get i) := by simp [hi]
        rw [h2, List.getElem?_map] at h3
        cases ho : obs[i]? with
        | none => rw [ho] at h3; cases h3
        | some X => rw [ho] at h3; simp at h3; exact h3.symm
      · rw [k1.2, List.getElem?_eq_none (by rw [k1.1]; omega), List.getElem?_eq_none (by omega)]
    rw [← this]; exact k2.1 (Nat.le_of_ble_eq_true hY)
theorem all_dead {ob : List Ob} {o : Nat} {X : Ob} : ∀ i Y Y', ob[i]? = some Y → (ob.map fun _ => Ob.dead)[i]? = some Y' → Y' = .dead ∨ (i ≠ o ∧ FrzOb o X Y Y') := by
  intro i Y Y' h1 h2
  rw [List.getElem?_map, h1] at h2
  simp at h2
  exact .inl h2.symm
/-- a slice that was made, whatever else -/
theorem aret_slice {T S n o : Nat} {rows : List (List AV)} (h : ARet P f args [] [] (.sr o S 0 n) ob1) (ho : ob1[o]? = some (.row T S rows)) (hn : n = rows.length) (hp : pureRows rows = true) : ARet P f args [] [] (.sl S rows) [] :=
  aret_fin (aret_frz h ho (.inl ⟨_, _, _, rfl⟩) (Frz.sr0 rfl hn) (List.length_map ..) all_dead) (by simp [AV.und, undRows_pure 0 rows hp])
end
end Go.Am
