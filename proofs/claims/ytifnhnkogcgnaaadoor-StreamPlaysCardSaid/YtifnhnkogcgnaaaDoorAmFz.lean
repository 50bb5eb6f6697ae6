/-
  An abstract machine, part Fz: an object becomes memory that is never written again; calls told by other values; calls that make objects, known ahead.
-/
import Derived.Test.YtifnhnkogcgnaaaDoorAmZ
namespace Go.Am

open Classical in
/-- a block's cells join what is never written again -/
noncomputable def memAdd (m : Mem) (w : World) (b : Nat) : Mem where
  get a := match m.get a with
    | some x => some x
    | none => if a.block = b ∧ a.spot = none then w.cell? a else none
  has a x h := by simp [m.has a x h]
theorem memAdd_old {m : Mem} {w : World} {b : Nat} {a : Addr} {x : Value} (h : m a = some x) : memAdd m w b a = some x := by
  show (match m.get a with | some x => some x | none => _) = some x
  rw [show m.get a = some x from h]
theorem memAdd_new {m : Mem} {w : World} {b : Nat} {a : Addr} {x : Value} (h : memAdd m w b a = some x) : m a = some x ∨ (a.block = b ∧ w.cell? a = some x) := by
  have h' : (match m.get a with | some x => some x | none => if a.block = b ∧ a.spot = none then w.cell? a else none) = some x := h
  cases hm : m.get a with
  | some y => rw [hm] at h'; exact .inl h'
  | none =>
    rw [hm] at h'
    simp only at h'
    split at h'
    · rename_i hc; exact .inr ⟨hc.1, h'⟩
    · cases h'
theorem memAdd_at {m : Mem} {w : World} {b off : Nat} (h : m ⟨b, off, none⟩ = none) : memAdd m w b ⟨b, off, none⟩ = w.cell? ⟨b, off, none⟩ := by
  show (match m.get ⟨b, off, none⟩ with | some x => some x | none => _) = _
  rw [show m.get ⟨b, off, none⟩ = none from h]
  simp

/-- What is known of an object that was frozen. -/
structure FrzM (m : Mem) (γ : Gam) (o : Nat) (X : Ob) (m' : Mem) : Prop where
  le : Le m γ [] m' γ
  row : ∀ T S rows, X = .row T S rows → (γ o = some none ∧ rows = []) ∨ ∃ b C, γ o = some (some (b, C)) ∧ rows.length ≤ C ∧ RepRows m' γ S rows b 0
  box : ∀ cells, X = .box cells → ∃ b, γ o = some (some (b, 0)) ∧ RepCells m' γ cells b 0
theorem inv_freeze {m : Mem} {γ : Gam} {ob : List Ob} {w : World} (hi : Inv m γ ob w) {o : Nat} {X : Ob} (ho : ob[o]? = some X) (hX : (∃ T S rows, X = .row T S rows) ∨ ∃ cells, X = .box cells) :
    ∃ m', FrzM m γ o X m' ∧ Inv m' γ (ob.set o .dead) w ∧ Trans m γ w m' γ w := by
  have hob := hi.obj o X ho
  have key : ∀ (b C : Nat), γ o = some (some (b, C)) → (∀ off, m ⟨b, off, none⟩ = none) → X ≠ .dead → Le m γ [] (memAdd m w b) γ ∧ Inv (memAdd m w b) γ (ob.set o .dead) w ∧ Trans m γ w (memAdd m w b) γ w := by
    intro b C hg hm hne
    have hle : Le m γ [] (memAdd m w b) γ := ⟨fun a x h => memAdd_old h, fun _ _ h _ => h⟩
    have hi' := inv_dead hi o
    refine ⟨hle, ⟨fun a x h => ?_, fun q Y hY => ?_, hi'.sep, hi'.dom, hi'.len⟩, ⟨fun a x h => memAdd_old h, fun a x h => ?_, fun _ _ h => h, rfl, rfl, rfl, Nat.le_refl _, fun _ _ _ => rfl⟩⟩
    · rcases memAdd_new h with h1 | ⟨_, h1⟩
      · exact hi.mem a x h1
      · exact h1
    · by_cases hd : Y = .dead
      · subst hd; trivial
      · refine obAt_le0 (hi'.obj q Y hY) hle (fun _ _ _ => rfl) fun b' C' hg' off h => ?_
        have hl := live_dead ⟨Y, hY, hd⟩
        have hbb : b' ≠ b := fun e => hl.2 (hi.sep q o b C' C hl.1 ⟨X, ho, hne⟩ (e ▸ hg') hg)
        cases hc : memAdd m w b ⟨b', off, none⟩ with
        | none => rfl
        | some x =>
          rcases memAdd_new hc with h1 | ⟨h1, _⟩
          · rw [h] at h1; cases h1
          · exact absurd h1 hbb
    · rcases memAdd_new h with h1 | ⟨h1, _⟩
      · exact .inl h1
      · exact .inr (.inr ⟨o, C, by rw [h1]; exact hg⟩)
  rcases hX with ⟨T, S, rows, rfl⟩ | ⟨cells, rfl⟩
  · rcases hob with ⟨g1, g2⟩ | ⟨b, C, cs, g1, g2, g3, g4, g5, g6, g7, g8⟩
    · exact ⟨m, ⟨⟨fun _ _ h => h, fun _ _ h _ => h⟩, (fun T' S' rows' e => (by cases e; exact .inl ⟨g1, g2⟩)), (fun _ e => (by cases e))⟩, inv_dead hi o, Trans.refl _ _ _⟩
    · obtain ⟨h1, h2, h3⟩ := key b C g1 g8 (by simp)
      refine ⟨_, ⟨h1, fun T' S' rows' e => ?_, (fun _ e => (by cases e))⟩, h2, h3⟩
      cases e
      refine .inr ⟨b, C, g1, g4, rows_of_cells g6 (repVals_le h1 _ _ (freeVals_nil _) g7) fun i x hx => ?_⟩
      rw [memAdd_at (g8 _), g2.cell, Nat.zero_add]
      rw [List.getElem?_take] at hx
      split at hx
      · simpa using hx
      · cases hx
  · obtain ⟨b, cs, T, g1, g2, g3, g4⟩ := hob
    obtain ⟨h1, h2, h3⟩ := key b 0 g1 g4 (by simp)
    refine ⟨_, ⟨h1, (fun _ _ _ e => (by cases e)), fun cells' e => ?_⟩, h2, h3⟩
    cases e
    refine ⟨b, g1, repCells_of_get fun i c hc => ?_⟩
    obtain ⟨x, hx, hr⟩ := repVals_get g3 i c hc
    exact ⟨x, by rw [memAdd_at (g4 _), (CA.of_plain g2).cell, Nat.zero_add]; simpa using hx, rep_le h1 _ _ (AV.free_nil _) hr⟩

/-- A value, told anew behind a freezing. -/
def Frz (o : Nat) (X : Ob) (av av' : AV) : Prop := ∀ m γ m', FrzM m γ o X m' → ∀ x, Rep m γ av x → Rep m' γ av' x
def FrzL (o : Nat) (X : Ob) (cs cs' : List AV) : Prop := ∀ m γ m', FrzM m γ o X m' → ∀ xs, RepVals m γ cs xs → RepVals m' γ cs' xs
section
variable {o : Nat} {X : Ob}
theorem Frz.same (av : AV) : Frz o X av av := fun _m _γ _m' h x hr => rep_le h.le av x (AV.free_nil _) hr
theorem FrzL.nil : FrzL o X [] [] := fun _ _ _ _ _ h => by simpa only [RepVals] using h
theorem FrzL.cons {c c' : AV} {cs cs' : List AV} (h : Frz o X c c') (k : FrzL o X cs cs') : FrzL o X (c :: cs) (c' :: cs') := fun m γ m' hm xs hr => by
  simp only [RepVals] at hr ⊢
  obtain ⟨x, r, rfl, h1, h2⟩ := hr
  exact ⟨x, r, rfl, h m γ m' hm x h1, k m γ m' hm r h2⟩
theorem FrzL.same (cs : List AV) : FrzL o X cs cs := fun _m _γ _m' h xs hr => repVals_le h.le cs xs (freeVals_nil _) hr
theorem Frz.tu {cs cs' : List AV} (h : FrzL o X cs cs') : Frz o X (.tu cs) (.tu cs') := fun m γ m' hm x hr => by
  simp only [Rep] at hr ⊢
  obtain ⟨xs, h1, h2⟩ := hr
  exact ⟨xs, h1, h m γ m' hm xs h2⟩
theorem Frz.ag {cs cs' : List AV} (h : FrzL o X cs cs') : Frz o X (.ag cs) (.ag cs') := fun m γ m' hm x hr => by
  simp only [Rep] at hr ⊢
  obtain ⟨xs, h1, h2⟩ := hr
  exact ⟨xs, h1, h m γ m' hm xs h2⟩
theorem Frz.sr {T S lo len : Nat} {rows : List (List AV)} (hX : X = .row T S rows) (h : lo + len ≤ rows.length) : Frz o X (.sr o S lo len) (.sl S ((rows.drop lo).take len)) := fun m γ m' hm x hr => by
  simp only [Rep] at hr ⊢
  have hl : ((rows.drop lo).take len).length = len := by simp; omega
  rcases hr with ⟨_, ⟨a, rfl⟩, rfl, rfl⟩ | ⟨b, C, cap, g1, g2, g3, g4, g5⟩
  · exact ⟨a, 0, 0, rfl, by simp, Nat.le_refl _, .inl (by simp)⟩
  · rcases g5 with rfl | ⟨rfl, _, a, rfl⟩
    · refine ⟨_, _, _, rfl, hl.symm, g3, ?_⟩
      rcases hm.row T S rows hX with ⟨h1, _⟩ | ⟨b', C', h1, _, h3⟩
      · rw [g1] at h1; cases h1
      · rw [g1] at h1
        cases h1
        refine .inr ⟨b, lo * S, rfl, repRows_take ?_ len⟩
        have := repRows_drop h3 lo
        rwa [Nat.zero_add] at this
    · exact ⟨_, _, _, rfl, hl.symm, g3, .inl (by simp)⟩
theorem Frz.sr0 {T S n : Nat} {rows : List (List AV)} (hX : X = .row T S rows) (h : n = rows.length) : Frz o X (.sr o S 0 n) (.sl S rows) := by
  have := Frz.sr (o := o) (lo := 0) (len := n) hX (by omega)
  rwa [List.drop_zero, List.take_of_length_le (by omega)] at this
theorem Frz.pt {cells : List AV} {off : Nat} (hX : X = .box cells) : Frz o X (.pt o off) (.pf (cells.drop off)) := fun m γ m' hm x hr => by
  simp only [Rep] at hr ⊢
  obtain ⟨b, C, g1, rfl⟩ := hr
  obtain ⟨b', h1, h2⟩ := hm.box cells hX
  rw [g1] at h1
  cases h1
  exact ⟨b, off, rfl, by have := repCells_drop h2 off; rwa [Nat.zero_add] at this⟩
end
/-- .. and an object -/
inductive FrzOb (o : Nat) (X : Ob) : Ob → Ob → Prop
  | same (Y : Ob) : FrzOb o X Y Y
  | box {cs cs' : List AV} (h : FrzL o X cs cs') : FrzOb o X (.box cs) (.box cs')
  | any (Y : Ob) : FrzOb o X Y .dead
theorem inv_tell {m : Mem} {γ : Gam} {ob ob2 : List Ob} {w : World} (hi : Inv m γ ob w) (hl : ob2.length = ob.length) (h : ∀ (i : Nat) (Y : Ob), ob2[i]? = some Y → Y = .dead ∨ (live ob i ∧ ObAt m γ w i Y)) : Inv m γ ob2 w := by
  have hlv : ∀ q, live ob2 q → live ob q := by
    rintro q ⟨Y, hY, hne⟩
    rcases h q Y hY with rfl | h1
    · exact absurd rfl hne
    · exact h1.1
  refine ⟨hi.mem, fun q Y hY => ?_, fun q q' b C C' l1 l2 => hi.sep q q' b C C' (hlv q l1) (hlv q' l2), hi.dom, fun q hq => by rw [hl]; exact hi.len q hq⟩
  rcases h q Y hY with rfl | h1
  · trivial
  · exact h1.2
section
variable {P : Program} {f : FuncId} {args : List AV} {ob ob1 ob2 : List Ob} {kk : List Nat} {r r' : AV}
/-- A CALL'S OBJECT IS FROZEN. -/
theorem aret_frz (h : ARet P f args ob kk r ob1) {o : Nat} {X : Ob} (ho : ob1[o]? = some X) (hX : (∃ T S rows, X = .row T S rows) ∨ ∃ cells, X = .box cells) (hr : Frz o X r r') (hl : ob2.length = ob1.length)
    (hob : ∀ i Y Y', ob1[i]? = some Y → ob2[i]? = some Y' → Y' = .dead ∨ (i ≠ o ∧ FrzOb o X Y Y')) : ARet P f args ob kk r' ob2 := by
  refine ⟨h.1, fun m γ w vs hi hv => (h.2 m γ w vs hi hv).mono ?_⟩
  rintro e w' ⟨m', γ', r0, o0, ⟨rfl, rfl⟩, h2, h3, h4, h5⟩
  obtain ⟨m2, hm, hi2, ht⟩ := inv_freeze h4 ho hX
  have e1 : EndRep m2 γ' e (.ret r') := by
    cases e with
    | returned v => exact hr _ _ _ hm v h2
    | panicked c => exact h2.elim
    | outgrown => exact h2.elim
  refine ⟨m2, γ', _, ob2, ⟨rfl, rfl⟩, e1, h3.trans ht, inv_tell hi2 (by rw [hl, List.length_set]) fun i Y' hY' => ?_, h5⟩
  have hlt := (List.getElem?_eq_some_iff.1 hY').1
  obtain ⟨Y, hY⟩ : ∃ Y, o0[i]? = some Y := ⟨_, List.getElem?_eq_getElem (by omega)⟩
  by_cases hd : Y' = .dead
  · exact .inl hd
  rcases hob i Y Y' hY hY' with h6 | ⟨hne, h6⟩
  · exact .inl h6
  · have hset : (o0.set o Ob.dead)[i]? = some Y := by rw [List.getElem?_set_ne (Ne.symm hne)]; exact hY
    cases h6 with
    | same => exact .inr ⟨⟨_, hset, hd⟩, hi2.obj i _ hset⟩
    | any => exact .inl rfl
    | box hcs =>
      refine .inr ⟨⟨_, hset, by simp⟩, ?_⟩
      obtain ⟨b, cs, T, g1, g2, g3, g4⟩ := hi2.obj i _ hset
      obtain ⟨b', cs', T', g1', g2', g3', _⟩ := h4.obj i _ hY
      rw [g1] at g1'
      cases g1'
      rw [g2] at g2'
      cases g2'
      exact ⟨b, cs, T, g1, g2, hcs _ _ _ hm _ g3', g4⟩
/-- .. and the objects that nobody names forgotten -/
theorem aret_fin (h : ARet P f args [] [] r ob1) (hr : r.und 0 = true) : ARet P f args [] [] r [] :=
  aret_drop (h.mono fun e o hh => ⟨hh.1, ob1, by rw [hh.2]; rfl⟩) (Nat.le_refl _) hr rfl
/-- a slice that was made -/
theorem aret_row {T S n : Nat} {rows : List (List AV)} (h : ARet P f args [] [] (.sr 0 S 0 n) [.row T S rows]) (hn : n = rows.length) (hp : pureRows rows = true) : ARet P f args [] [] (.sl S rows) [] :=
  aret_fin (aret_frz (ob2 := [.dead]) h (o := 0) rfl (.inl ⟨_, _, _, rfl⟩) (Frz.sr0 rfl hn) rfl (fun i Y Y' _ h2 => .inl (by
    cases i with
    | zero => simp at h2; exact h2.symm
    | succ i => simp at h2))) (by simp [AV.und, undRows_pure 0 rows hp])
/-- a result told with less -/
theorem aret_weak (h : ARet P f args ob kk r ob1) (hr : ∀ m γ x, Rep m γ r x → Rep m γ r' x) : ARet P f args ob kk r' ob1 := by
  refine ⟨h.1, fun m γ w vs hi hv => (h.2 m γ w vs hi hv).mono ?_⟩
  rintro e w' ⟨m', γ', r0, o0, ⟨rfl, rfl⟩, h2, h3, h4, h5⟩
  refine ⟨m', γ', _, _, ⟨rfl, rfl⟩, ?_, h3, h4, h5⟩
  cases e with
  | returned v => exact hr _ _ _ h2
  | panicked c => exact h2.elim
  | outgrown => exact h2.elim
theorem weak_nil {m : Mem} {γ : Gam} {S : Nat} {a : Option Addr} {cap : Nat} (x : Value) (h : Rep m γ (.v (.slice a 0 cap)) x) : Rep m γ (.sl S []) x := by
  simp only [Rep] at h ⊢
  exact ⟨a, 0, cap, h, by simp, Nat.zero_le _, by simp⟩
/-- arguments told otherwise, by cases -/
theorem aret_case (hf : ∃ fn, P.funcs[f]? = some fn ∧ (fn.name == "runtime.NumGoroutine") = false ∧ fn.body.isNone = false) (h : ∀ m γ vs, RepVals m γ args vs → ∃ args', RepVals m γ args' vs ∧ ARet P f args' ob kk r ob1) : ARet P f args ob kk r ob1 :=
  ⟨hf, fun m γ w vs hi hv => by
    obtain ⟨args', h1, h2⟩ := h m γ vs hv
    exact h2.2 m γ w vs hi h1⟩
/-- What a function makes that is handed no object, it makes whatever objects there are. -/
theorem aret_push {obs : List Ob} (h : ARet P f args [] [] r obs) (hp : pureVals args = true) (ob : List Ob) : ARet P f args ob [] (r.ren (fsel [] ob.length)) (ob ++ obs.map (Ob.ren (fsel [] ob.length))) := by
  refine ⟨h.1, fun m γ w vs hi hv => ?_⟩
  have hget : ∀ (i s : Nat) (X : Ob), ([] : List Nat)[i]? = some s → ([] : List Ob)[i]? = some X → ob[s]? = some (X.ren (fsel [] ob.length)) ∧ X ≠ .dead := fun i s X e => by simp at e
  refine (h.2 m _ w vs (inv_sel hi List.nodup_nil rfl hget) ((repVals_ren _ _).2 (by rw [renVals_pure _ _ hp]; exact hv))).mono ?_
  rintro e w' ⟨m', γc, r', obc', ⟨rfl, rfl⟩, h2, h3, h4, h5⟩
  obtain ⟨γ', g1, g2, g3, g4⟩ := inv_back hi (kk := []) List.nodup_nil rfl hget (Nat.zero_le _) (by simp) h3 h4 h5
  have hb : back ob [] [] obc' = ob ++ obc'.map (Ob.ren (fsel [] ob.length)) := by simp [back, setAll, killObs]
  rw [hb] at g4
  refine ⟨m', γ', _, _, ⟨rfl, rfl⟩, ?_, g2, g4, fun o g hk hg => g3.gam o g hg hk⟩
  cases e with
  | returned v =>
    have h2' : Rep m' γc r v := h2
    rw [← show (fun k => γ' (fsel [] ob.length k)) = γc from funext g1] at h2'
    exact (rep_ren _ _).1 h2'
  | panicked c => exact h2.elim
  | outgrown => exact h2.elim
/-- .. known ahead -/
noncomputable def knownP (f0 : FuncId) (ok : List AV → Prop) (r : List AV → Nat → AV) (obs : List AV → Nat → List Ob) (callf : CallF) : CallF := fun f args O N tm => cond (Nat.beq f f0) (.ret (r args N) (triOk N (obs args N) O) (N + (obs args N).length) ((tm.at N).asks (dec (ok args)))) (callf f args O N tm)
theorem triOk_rel : ∀ (l : List Ob) (O : Tri Ob) (N : Nat) (ob : List Ob), RelO O N ob → RelO (triOk N l O) (N + l.length) (ob ++ l) := by
  intro l O N ob h
  obtain ⟨rfl, h2⟩ := h
  refine ⟨by simp, fun i => ?_⟩
  rw [triOk_get l ob.length O (fun i hi => by rw [h2]; exact List.getElem?_eq_none hi) i, h2]
  by_cases hi : i < ob.length
  · rw [if_pos hi, List.getElem?_append_left hi]
  · rw [if_neg hi, List.getElem?_append_right (by omega)]
theorem knownP_ok {f0 : FuncId} {ok : List AV → Prop} {r : List AV → Nat → AV} {obs : List AV → Nat → List Ob} {callf : CallF} (h : ∀ args, ok args → ∃ r0 obs0, ARet P f0 args [] [] r0 obs0 ∧ pureVals args = true ∧ ∀ N, r0.ren (fsel [] N) = r args N ∧ obs0.map (Ob.ren (fsel [] N)) = obs args N) (hcf : CallOk P callf) : CallOk P (knownP f0 ok r obs callf) := fun f args O N tm => by
  unfold knownP
  cases hf : Nat.beq f f0 with
  | false => exact hcf f args O N tm
  | true =>
    have := Nat.eq_of_beq_eq_true hf
    subst this
    simp only [cond_true]
    refine ⟨fun r' O1 N1 t1 e => ?_, fun av O1 N1 t1 e => by cases e⟩
    cases e
    refine ⟨⟨[_], rfl⟩, fun hok ob hO => ?_⟩
    simp only [TM.asks, TM.at, allT, Bool.and_eq_true] at hok
    obtain ⟨r0, obs0, k1, k2, k3⟩ := h args (dec_true.1 hok.1)
    have hrel := triOk_rel (obs args N) O N ob hO
    refine ⟨_, hrel, ?_, fun i hi => ?_⟩
    · have := aret_push k1 k2 ob
      rw [hO.1, (k3 N).1, (k3 N).2] at this
      exact this
    · rw [hrel.2, hO.2, List.getElem?_append_left (by rw [hO.1]; exact hi)]
/-- what a call's run gives, to look at -/
noncomputable def outC : CR → Option (AV × List (Option Ob) × List Bool)
  | .ret r O N t => some (r, (List.range N).map O.get, t.ok)
  | _ => none
theorem aret_of_run {callf : CallF} (hcf : CallOk P callf) {tm : TM} {obs : List Ob} {ok : List Bool} (h : outC (callf f args .e 0 tm) = some (r, obs.map some, ok)) (hok : allT ok = true) : ARet P f args [] [] r obs := by
  cases hc : callf f args .e 0 tm with
  | fail => rw [hc] at h; cases h
  | pan av O N t => rw [hc] at h; cases h
  | ret r1 O N t =>
    rw [hc] at h
    simp only [outC, Option.some.injEq, Prod.mk.injEq] at h
    obtain ⟨rfl, h2, rfl⟩ := h
    obtain ⟨ob1, k1, k2, _⟩ := ((hcf f args .e 0 tm).1 _ _ _ _ hc).2 hok [] RelO.nil
    have : ob1 = obs := by
      have hl : obs.length = N := by have := congrArg List.length h2; simpa using this.symm
      apply List.ext_getElem?
      intro i
      rw [← k1.2]
      by_cases hi : i < N
      · have h3 : ((List.range N).map O.get)[i]? = some (O.get i) := by simp [hi]
        rw [h2, List.getElem?_map] at h3
        cases ho : obs[i]? with
        | none => rw [ho] at h3; cases h3
        | some X => rw [ho] at h3; simp at h3; exact h3.symm
      · rw [k1.2, List.getElem?_eq_none (by rw [k1.1]; omega), List.getElem?_eq_none (by omega)]
    rw [← this]; exact k2
theorem all_dead {ob : List Ob} {o : Nat} {X : Ob} : ∀ i Y Y', ob[i]? = some Y → (ob.map fun _ => Ob.dead)[i]? = some Y' → Y' = .dead ∨ (i ≠ o ∧ FrzOb o X Y Y') := by
  intro i Y Y' h1 h2
  rw [List.getElem?_map, h1] at h2
  simp at h2
  exact .inl h2.symm
/-- a slice that was made, whatever else -/
theorem aret_slice {T S n o : Nat} {rows : List (List AV)} (h : ARet P f args [] [] (.sr o S 0 n) ob1) (ho : ob1[o]? = some (.row T S rows)) (hn : n = rows.length) (hp : pureRows rows = true) : ARet P f args [] [] (.sl S rows) [] :=
  aret_fin (aret_frz h ho (.inl ⟨_, _, _, rfl⟩) (Frz.sr0 rfl hn) (List.length_map ..) all_dead) (by simp [AV.und, undRows_pure 0 rows hp])
end
end Go.Am
