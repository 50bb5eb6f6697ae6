/-
  An abstract machine, part E: the operations, first half: those that hang on slots alone, or read.
-/
import Derived.Test.YtobehholoenaiaaGreatDoorAmD
namespace Go.Am

/-- An operation's guard holds. -/
inductive Gd (ops : Array Oper) (L : Loc) : Option (Nat × Bool) → Loc → Prop
  | none : Gd ops L none []
  | some {j t : Nat} {want : Bool} (hj : (ops[j]?).bind (·.dst) = some t) (hl : lk L t = some (.v (.bool want))) : Gd ops L (some (j, want)) [(t, .v (.bool want))]
/-- .. or does not. -/
inductive Gx (ops : Array Oper) (L : Loc) : Option (Nat × Bool) → Loc → Prop
  | some {j t : Nat} {want got : Bool} (hj : (ops[j]?).bind (·.dst) = some t) (hl : lk L t = some (.v (.bool got))) (hne : (got == want) = false) : Gx ops L (some (j, want)) [(t, .v (.bool got))]
  | und {j t : Nat} {want : Bool} (hj : (ops[j]?).bind (·.dst) = some t) (hl : lk L t = some (.v undef)) : Gx ops L (some (j, want)) [(t, .v undef)]

def uses : List (Operand × AV) → Loc
  | [] => []
  | (.tmp t, av) :: r => (t, av) :: uses r
  | _ :: r => uses r
def EvalAll (L : Loc) : List (Operand × AV) → Prop
  | [] => True
  | (x, av) :: r => aeval L x = some av ∧ EvalAll L r
def RepXs (m : Mem) (γ : Gam) (a : Act) : List (Operand × AV) → Prop
  | [] => True
  | (x, av) :: r => Rep m γ av (a.eval x) ∧ RepXs m γ a r

theorem keepL_append {L : Loc} : ∀ {A B : Loc}, KeepL L A → KeepL L B → KeepL L (A ++ B)
  | [], _, _, h => h
  | (_t, _av) :: _A, _B, h, k => ⟨h.1, keepL_append h.2 k⟩
theorem keepL_mem {L : Loc} : ∀ {A : Loc}, KeepL L A → ∀ {t : Nat} {av : AV}, (t, av) ∈ A → lk L t = some av
  | [], _, t, av, h => by cases h
  | (s, bv) :: A, h, t, av, hm => by
    cases List.mem_cons.1 hm with
    | inl e => cases e; exact h.1
    | inr e => exact keepL_mem h.2 e
theorem lk_some_of_mem : ∀ {A : Loc} {t : Nat} {av : AV}, (t, av) ∈ A → ∃ bv, lk A t = some bv
  | [], t, av, h => by cases h
  | (s, bv) :: A, t, av, h => by
    rw [lk_cons]
    split
    · exact ⟨bv, rfl⟩
    · rename_i hne
      cases List.mem_cons.1 h with
      | inl e => cases e; exact absurd rfl hne
      | inr e => exact lk_some_of_mem e
theorem lk_keep {L A : Loc} (h : KeepL L A) {t : Nat} {av : AV} (hm : (t, av) ∈ A) : lk A t = some av := by
  obtain ⟨bv, hb⟩ := lk_some_of_mem hm
  have h1 := keepL_mem h hm
  have h2 := keepL_mem h (lk_mem hb)
  rw [h1] at h2; cases h2; exact hb
theorem uses_keep {L : Loc} : ∀ {xs : List (Operand × AV)}, EvalAll L xs → KeepL L (uses xs)
  | [], _ => trivial
  | (x, av) :: r, h => by
    cases x with
    | tmp t => exact ⟨h.1, uses_keep h.2⟩
    | const v => exact uses_keep (xs := r) h.2
    | global g => exact uses_keep (xs := r) h.2
    | func f => exact uses_keep (xs := r) h.2
theorem repXs_of {L A : Loc} (hk : KeepL L A) {m : Mem} {γ : Gam} {a : Act} (hl : RepLoc m γ a A) : ∀ {xs : List (Operand × AV)}, EvalAll L xs → (∀ p ∈ uses xs, p ∈ A) → RepXs m γ a xs
  | [], _, _ => trivial
  | (x, av) :: r, h, hA => by
    refine ⟨?_, repXs_of hk hl h.2 fun p hp => hA p ?_⟩
    · cases x with
      | tmp t => exact (hl t av (lk_keep hk (hA _ (by simp [uses])))).2
      | const v => exact rep_const h.1
      | global g => exact rep_global h.1
      | func f => have := h.1; simp only [aeval, Option.some.injEq] at this; subst this; simp [Rep, Act.eval, RepVals]
    · cases x <;> simp [uses, hp]
theorem gd_keep {ops : Array Oper} {L : Loc} {g : Option (Nat × Bool)} {gu : Loc} (h : Gd ops L g gu) : KeepL L gu := by
  cases h with
  | none => trivial
  | some hj hl => exact ⟨hl, trivial⟩
theorem yielded_of {ops : Array Oper} {a : Act} {m : Mem} {γ : Gam} {A : Loc} {j t : Nat} {b : Bool} (hl : RepLoc m γ a A) (hj : (ops[j]?).bind (·.dst) = some t) (h : lk A t = some (.v (.bool b))) : yielded ops a.tmps j = some b := by
  obtain ⟨h1, h2⟩ := hl t _ h
  simp only [Rep] at h2
  unfold yielded
  rw [hj]
  simp only [Option.bind_some]
  rw [Array.getD_eq_getD_getElem?, Array.getElem?_eq_getElem h1] at h2
  simp only [Option.getD_some] at h2
  rw [Array.getElem?_eq_getElem h1, h2]
theorem yielded_und {ops : Array Oper} {a : Act} {m : Mem} {γ : Gam} {A : Loc} {j t : Nat} (hl : RepLoc m γ a A) (hj : (ops[j]?).bind (·.dst) = some t) (h : lk A t = some (.v undef)) : yielded ops a.tmps j = none := by
  obtain ⟨h1, h2⟩ := hl t _ h
  simp only [Rep] at h2
  unfold yielded
  rw [hj]
  simp only [Option.bind_some]
  rw [Array.getD_eq_getD_getElem?, Array.getElem?_eq_getElem h1] at h2
  simp only [Option.getD_some] at h2
  rw [Array.getElem?_eq_getElem h1, h2]
  rfl
theorem gd_wanted {ops : Array Oper} {L : Loc} {o : Oper} {gu : Loc} (h : Gd ops L o.guard gu) {m : Mem} {γ : Gam} {a : Act} {A : Loc} (hk : KeepL L A) (hl : RepLoc m γ a A) (hA : ∀ p ∈ gu, p ∈ A) : Region.wanted o (yielded ops a.tmps) = true := by
  unfold Region.wanted
  generalize o.guard = g at h
  cases h with
  | none => rfl
  | some hj hl' =>
    have := yielded_of hl hj (lk_keep hk (hA _ (List.mem_singleton.2 rfl)))
    simp [this]

section
variable {P : Program} {n : Nat} {ops : Array Oper} {l : List Oper} {L : Loc} {ob : List Ob} {kf : List Rec → Loc → List Ob → Prop} {gu : Loc}

/-- An operation that hangs on slots alone and gives a value, the world as it was. -/
theorem ev_val0 {o : Oper} {r : AV} (xs : List (Operand × AV)) (hx : EvalAll L xs) (hg : Gd ops L o.guard gu) (hn : ∀ d, o.dst = some d → d < n)
    (h : ∀ m γ w a, (∀ ad x, m ad = some x → w.cell? ad = some x) → RepXs m γ a xs → ∃ x, (execOp a.eval o).run P w = .ok (.value x) w ∧ Rep m γ r x)
    (k : EvK P n ops l (updL L o.dst r []) ob (fun recs => kf (⟨o.dst, gu ++ uses xs, r, [], .pure⟩ :: recs))) : EvK P n ops (o :: l) L ob kf := by
  have hkeep := keepL_append (gd_keep hg) (uses_keep hx)
  refine evk_cons (rc := ⟨o.dst, gu ++ uses xs, r, [], .pure⟩) (keepL_sub hkeep) rfl hn ⟨rfl, rfl, fun ob' m γ w a K Q hi hl hK => ?_⟩ k
  have hw := gd_wanted hg hkeep hl (fun p hp => by simp [hp])
  simp only [hw, if_true]
  obtain ⟨x, h1, h2⟩ := h m γ w a hi.mem (repXs_of hkeep hl hx (fun p hp => by simp [hp]))
  refine .inl ?_
  unfold Oper.wp
  rw [h1, Oper.upon_value]
  exact hK m γ w x (Trans.refl _ _ _) ⟨fun _ _ h => h, fun _ _ h _ => h⟩ hi h2
/-- .. one that reads the objects, too. -/
theorem ev_val1 {o : Oper} {r : AV} (xs : List (Operand × AV)) (hx : EvalAll L xs) (hg : Gd ops L o.guard gu) (hn : ∀ d, o.dst = some d → d < n)
    (h : ∀ m γ w a, Inv m γ ob w → RepXs m γ a xs → ∃ x, (execOp a.eval o).run P w = .ok (.value x) w ∧ Rep m γ r x)
    (k : EvK P n ops l (updL L o.dst r []) ob (fun recs => kf (⟨o.dst, gu ++ uses xs, r, [], .read⟩ :: recs))) : EvK P n ops (o :: l) L ob kf := by
  have hkeep := keepL_append (gd_keep hg) (uses_keep hx)
  refine evk_cons (rc := ⟨o.dst, gu ++ uses xs, r, [], .read⟩) (keepL_sub hkeep) rfl hn ⟨rfl, rfl, fun m γ w a K Q hi hl hK => ?_⟩ k
  have hw := gd_wanted hg hkeep hl (fun p hp => by simp [hp])
  simp only [hw, if_true]
  obtain ⟨x, h1, h2⟩ := h m γ w a hi (repXs_of hkeep hl hx (fun p hp => by simp [hp]))
  refine .inl ?_
  unfold Oper.wp
  rw [h1, Oper.upon_value]
  exact hK m γ w x (Trans.refl _ _ _) ⟨fun _ _ h => h, fun _ _ h _ => h⟩ hi h2
/-- .. one object alone. -/
theorem ev_rd {o : Oper} {r : AV} {k : Nat} {X : Ob} (hX : ob[k]? = some X) (xs : List (Operand × AV)) (hx : EvalAll L xs) (hg : Gd ops L o.guard gu) (hn : ∀ d, o.dst = some d → d < n)
    (h : ∀ ob m γ w a, ob[k]? = some X → Inv m γ ob w → RepXs m γ a xs → ∃ x, (execOp a.eval o).run P w = .ok (.value x) w ∧ Rep m γ r x)
    (kk : EvK P n ops l (updL L o.dst r []) ob (fun recs => kf (⟨o.dst, gu ++ uses xs, r, [], .rd k X⟩ :: recs))) : EvK P n ops (o :: l) L ob kf := by
  have hkeep := keepL_append (gd_keep hg) (uses_keep hx)
  refine evk_cons (rc := ⟨o.dst, gu ++ uses xs, r, [], .rd k X⟩) (keepL_sub hkeep) rfl hn (show StepK P ops o ⟨o.dst, gu ++ uses xs, r, [], .rd k X⟩ ob ob from ⟨hX, rfl, rfl, fun ob' hX' m γ w a K Q hi hl hK => ?_⟩) kk
  have hw := gd_wanted hg hkeep hl (fun p hp => by simp [hp])
  simp only [hw, if_true]
  obtain ⟨x, h1, h2⟩ := h ob' m γ w a hX' hi (repXs_of hkeep hl hx (fun p hp => by simp [hp]))
  refine .inl ?_
  unfold Oper.wp
  rw [h1, Oper.upon_value]
  exact hK m γ w x (Trans.refl _ _ _) ⟨fun _ _ h => h, fun _ _ h _ => h⟩ hi h2
/-- .. writes one object alone. -/
theorem ev_st {o : Oper} {r : AV} {k : Nat} {X X' : Ob} (hX : ob[k]? = some X) (xs : List (Operand × AV)) (hx : EvalAll L xs) (hg : Gd ops L o.guard gu) (hn : ∀ d, o.dst = some d → d < n)
    (h : ∀ ob m γ w a (K : Act → World → Prop) (Q : Exit → Act → World → Prop), ob[k]? = some X → Inv m γ ob w → RepXs m γ a xs →
      (∀ m' γ' w' x, Trans m γ w m' γ' w' → Le m γ [] m' γ' → Inv m' γ' (ob.set k X') w' → Rep m' γ' r x → K (a.put o.dst x) w') → o.wp P a w K Q)
    (kk : EvK P n ops l (updL L o.dst r []) (ob.set k X') (fun recs => kf (⟨o.dst, gu ++ uses xs, r, [], .st k X X'⟩ :: recs))) : EvK P n ops (o :: l) L ob kf := by
  have hkeep := keepL_append (gd_keep hg) (uses_keep hx)
  refine evk_cons (rc := ⟨o.dst, gu ++ uses xs, r, [], .st k X X'⟩) (keepL_sub hkeep) rfl hn (show StepK P ops o ⟨o.dst, gu ++ uses xs, r, [], .st k X X'⟩ ob (ob.set k X') from ⟨hX, rfl, fun ob' hX' m γ w a K Q hi hl hK => ?_⟩) kk
  have hw := gd_wanted hg hkeep hl (fun p hp => by simp [hp])
  simp only [hw, if_true]
  exact .inl (h ob' m γ w a K Q hX' hi (repXs_of hkeep hl hx (fun p hp => by simp [hp])) hK)
/-- Any operation, by what it does ('kind' 0: whatever the objects are). -/
theorem ev_any0 {o : Oper} {r : AV} (xs : List (Operand × AV)) (hx : EvalAll L xs) (hg : Gd ops L o.guard gu) (hn : ∀ d, o.dst = some d → d < n)
    (h : ∀ ob m γ w a (K : Act → World → Prop) (Q : Exit → Act → World → Prop), Inv m γ ob w → RepXs m γ a xs →
      (∀ m' γ' w' x, Trans m γ w m' γ' w' → Le m γ [] m' γ' → Inv m' γ' ob w' → Rep m' γ' r x → K (a.put o.dst x) w') → o.wp P a w K Q)
    (k : EvK P n ops l (updL L o.dst r []) ob (fun recs => kf (⟨o.dst, gu ++ uses xs, r, [], .pure⟩ :: recs))) : EvK P n ops (o :: l) L ob kf := by
  have hkeep := keepL_append (gd_keep hg) (uses_keep hx)
  refine evk_cons (rc := ⟨o.dst, gu ++ uses xs, r, [], .pure⟩) (keepL_sub hkeep) rfl hn ⟨rfl, rfl, fun ob' m γ w a K Q hi hl hK => ?_⟩ k
  have hw := gd_wanted hg hkeep hl (fun p hp => by simp [hp])
  simp only [hw, if_true]
  exact .inl (h ob' m γ w a K Q hi (repXs_of hkeep hl hx (fun p hp => by simp [hp])) hK)
theorem ev_any2 {o : Oper} {r : AV} {ob1 : List Ob} (ks : List Nat) (xs : List (Operand × AV)) (hx : EvalAll L xs) (hg : Gd ops L o.guard gu) (hn : ∀ d, o.dst = some d → d < n)
    (h : ∀ m γ w a (K : Act → World → Prop) (Q : Exit → Act → World → Prop), Inv m γ ob w → RepXs m γ a xs →
      (∀ m' γ' w' x, Trans m γ w m' γ' w' → Le m γ ks m' γ' → Inv m' γ' ob1 w' → Rep m' γ' r x → K (a.put o.dst x) w') → o.wp P a w K Q)
    (k : EvK P n ops l (updL L o.dst r ks) ob1 (fun recs => kf (⟨o.dst, gu ++ uses xs, r, ks, .write⟩ :: recs))) : EvK P n ops (o :: l) L ob kf := by
  have hkeep := keepL_append (gd_keep hg) (uses_keep hx)
  refine evk_cons (rc := ⟨o.dst, gu ++ uses xs, r, ks, .write⟩) (keepL_sub hkeep) rfl hn (show GStep P ops o ⟨o.dst, gu ++ uses xs, r, ks, .write⟩ ob ob1 from fun m γ w a K Q hi hl hK => ?_) k
  have hw := gd_wanted hg hkeep hl (fun p hp => by simp [hp])
  simp only [hw, if_true]
  exact .inl (h m γ w a K Q hi (repXs_of hkeep hl hx (fun p hp => by simp [hp])) hK)
/-- An operation whose guard does not hold. -/
theorem ev_skip {o : Oper} (hg : Gx ops L o.guard gu) (hn : ∀ d, o.dst = some d → d < n)
    (k : EvK P n ops l (updL L o.dst (.v undef) []) ob (fun recs => kf (⟨o.dst, gu, .v undef, [], .pure⟩ :: recs))) : EvK P n ops (o :: l) L ob kf := by
  have hkeep : KeepL L gu := by
    generalize o.guard = g at hg
    cases hg with
    | some hj hl _ => exact ⟨hl, trivial⟩
    | und hj hl => exact ⟨hl, trivial⟩
  refine evk_cons (rc := ⟨o.dst, gu, .v undef, [], .pure⟩) (keepL_sub hkeep) rfl hn ⟨rfl, rfl, fun ob' m γ w a K Q hi hl hK => ?_⟩ k
  have hw : Region.wanted o (yielded ops a.tmps) = false := by
    unfold Region.wanted
    generalize o.guard = g at hg
    cases hg with
    | some hj hl' hne =>
      have := yielded_of hl hj (lk_keep hkeep (List.mem_singleton.2 rfl))
      simpa [this] using hne
    | und hj hl' =>
      have := yielded_und hl hj (lk_keep hkeep (List.mem_singleton.2 rfl))
      simp [this]
  simp only [hw, Bool.false_eq_true, if_false]
  exact hK m γ w undef (Trans.refl _ _ _) ⟨fun _ _ h => h, fun _ _ h _ => h⟩ hi (by simp [Rep])

variable {dst : Option Nat} {ty : TypeId} {pos : String} {after : Array Edge} {guard : Option (Nat × Bool)}

theorem ev_move {x : Operand} {av : AV} (hx : aeval L x = some av) (hg : Gd ops L guard gu) (hn : ∀ d, dst = some d → d < n)
    (k : EvK P n ops l (updL L dst av []) ob (fun recs => kf (⟨dst, gu ++ uses [(x, av)], av, [], .pure⟩ :: recs))) : EvK P n ops (⟨dst, .move x, ty, pos, after, guard⟩ :: l) L ob kf :=
  ev_val0 (o := ⟨dst, .move x, ty, pos, after, guard⟩) [(x, av)] ⟨hx, trivial⟩ hg hn (fun _m _γ _w _a _ h => ⟨_, rfl, h.1⟩) k
theorem ev_assign {x : Operand} {av : AV} (hx : aeval L x = some av) (hg : Gd ops L guard gu) (hn : ∀ d, dst = some d → d < n)
    (k : EvK P n ops l (updL L dst av []) ob (fun recs => kf (⟨dst, gu ++ uses [(x, av)], av, [], .pure⟩ :: recs))) : EvK P n ops (⟨dst, .assign x, ty, pos, after, guard⟩ :: l) L ob kf :=
  ev_val0 (o := ⟨dst, .assign x, ty, pos, after, guard⟩) [(x, av)] ⟨hx, trivial⟩ hg hn (fun _m _γ _w _a _ h => ⟨_, rfl, h.1⟩) k
theorem ev_pick {c x y : Operand} {b : Bool} {u v : AV} (hc : aeval L c = some (.v (.bool b))) (hx : aeval L x = some u) (hy : aeval L y = some v) (hg : Gd ops L guard gu) (hn : ∀ d, dst = some d → d < n)
    (k : EvK P n ops l (updL L dst (cond b u v) []) ob (fun recs => kf (⟨dst, gu ++ uses [(c, .v (.bool b)), (x, u), (y, v)], cond b u v, [], .pure⟩ :: recs))) :
    EvK P n ops (⟨dst, .pick c x y, ty, pos, after, guard⟩ :: l) L ob kf :=
  ev_val0 (o := ⟨dst, .pick c x y, ty, pos, after, guard⟩) [(c, .v (.bool b)), (x, u), (y, v)] ⟨hc, hx, hy, trivial⟩ hg hn (fun m γ w a _ h => by
    have h1 := h.1
    simp only [Rep] at h1
    refine ⟨if b then a.eval x else a.eval y, ?_, ?_⟩
    · simp only [execOp, h1, asBool]
      cases b <;> rfl
    · cases b
      · exact h.2.2.1
      · exact h.2.1) k
/-- Two plain values, the choice of which is not known. -/
theorem ev_pickv {c x y : Operand} {b : Bool} {u v : Value} (hc : aeval L c = some (.v (.bool b))) (hx : aeval L x = some (.v u)) (hy : aeval L y = some (.v v)) (hg : Gd ops L guard gu) (hn : ∀ d, dst = some d → d < n)
    (k : EvK P n ops l (updL L dst (.v (cond b u v)) []) ob (fun recs => kf (⟨dst, gu ++ uses [(c, .v (.bool b)), (x, .v u), (y, .v v)], .v (cond b u v), [], .pure⟩ :: recs))) :
    EvK P n ops (⟨dst, .pick c x y, ty, pos, after, guard⟩ :: l) L ob kf :=
  ev_val0 (o := ⟨dst, .pick c x y, ty, pos, after, guard⟩) [(c, .v (.bool b)), (x, .v u), (y, .v v)] ⟨hc, hx, hy, trivial⟩ hg hn (fun m γ w a _ h => by
    obtain ⟨h1, h2, h3, _⟩ := h
    simp only [Rep] at h1 h2 h3
    refine ⟨cond b u v, ?_, by simp [Rep]⟩
    simp only [execOp, h1, h2, h3, asBool]
    cases b <;> rfl) k

/-! ### Loads -/
theorem ev_load_pf_agg {t : TypeId} {x : Operand} {cs : List AV} {k : Nat} (out : List AV) (ht : tyk P t = some (true, k)) (hx : aeval L x = some (.pf cs)) (hk : k ≤ cs.length) (hout : cs.take k = out) (hg : Gd ops L guard gu) (hn : ∀ d, dst = some d → d < n)
    (kk : EvK P n ops l (updL L dst (.ag out) []) ob (fun recs => kf (⟨dst, gu ++ uses [(x, .pf cs)], .ag out, [], .pure⟩ :: recs))) : EvK P n ops (⟨dst, .load t x, ty, pos, after, guard⟩ :: l) L ob kf := by
  subst hout
  exact ev_val0 (o := ⟨dst, .load t x, ty, pos, after, guard⟩) [(x, .pf cs)] ⟨hx, trivial⟩ hg hn (fun m γ w a hm h => by
    have h1 := h.1
    simp only [Rep] at h1
    obtain ⟨b, off, h2, h3⟩ := h1
    obtain ⟨xs, g1, g2⟩ := repCells_vals h3
    have hr := repVals_take g1 k
    refine ⟨.agg (xs.take k).toArray, ?_, by simp only [Rep]; exact ⟨_, rfl, hr⟩⟩
    have := run_loadVar_agg (P := P) (w := w) ht (b := b) (off := off) (xs := xs.take k) (fun j v hv => by
      rw [List.getElem?_take] at hv
      split at hv
      · exact hm _ _ (g2 j v hv)
      · cases hv) (by rw [repVals_length hr]; simp; omega)
    simp [execOp, h2, Instr.loadAt, Instr.sureAddr, this]) kk
theorem ev_load_pf_one {t : TypeId} {x : Operand} {c : AV} {cs : List AV} {k : Nat} (ht : tyk P t = some (false, k)) (hx : aeval L x = some (.pf (c :: cs))) (hg : Gd ops L guard gu) (hn : ∀ d, dst = some d → d < n)
    (kk : EvK P n ops l (updL L dst c []) ob (fun recs => kf (⟨dst, gu ++ uses [(x, .pf (c :: cs))], c, [], .pure⟩ :: recs))) : EvK P n ops (⟨dst, .load t x, ty, pos, after, guard⟩ :: l) L ob kf :=
  ev_val0 (o := ⟨dst, .load t x, ty, pos, after, guard⟩) [(x, .pf (c :: cs))] ⟨hx, trivial⟩ hg hn (fun m γ w a hm h => by
    have h1 := h.1
    simp only [Rep, RepCells] at h1
    obtain ⟨b, off, h2, ⟨y, h3, h4⟩, h5⟩ := h1
    refine ⟨y, ?_, h4⟩
    have := run_loadVar_one (P := P) (w := w) ht (hm _ _ h3)
    simp [execOp, h2, Instr.loadAt, Instr.sureAddr, this]) kk
theorem ev_load_pt_agg {t : TypeId} {x : Operand} {o off k : Nat} {Tb : TypeId} {cells : List AV} (out : List AV) (ht : tyk P t = some (true, k)) (hx : aeval L x = some (.pt o off)) (ho : ob[o]? = some (.box Tb cells)) (hk : off + k ≤ cells.length) (hout : (cells.drop off).take k = out) (hg : Gd ops L guard gu) (hn : ∀ d, dst = some d → d < n)
    (kk : EvK P n ops l (updL L dst (.ag out) []) ob (fun recs => kf (⟨dst, gu ++ uses [(x, .pt o off)], .ag out, [], .rd o (.box Tb cells)⟩ :: recs))) :
    EvK P n ops (⟨dst, .load t x, ty, pos, after, guard⟩ :: l) L ob kf := by
  subst hout
  exact ev_rd (o := ⟨dst, .load t x, ty, pos, after, guard⟩) ho [(x, .pt o off)] ⟨hx, trivial⟩ hg hn (fun ob m γ w a ho hi h => by
    obtain ⟨b, y, e1, e2, e3⟩ := load_box_agg hi ho hk h.1 ht
    exact ⟨y, by simp [execOp, e1, Instr.loadAt, Instr.sureAddr, e2], e3⟩) kk
theorem ev_load_pt_one {t : TypeId} {x : Operand} {o off k : Nat} {c : AV} {Tb : TypeId} {cells : List AV} (ht : tyk P t = some (false, k)) (hx : aeval L x = some (.pt o off)) (ho : ob[o]? = some (.box Tb cells)) (hk : cells[off]? = some c) (hg : Gd ops L guard gu) (hn : ∀ d, dst = some d → d < n)
    (kk : EvK P n ops l (updL L dst c []) ob (fun recs => kf (⟨dst, gu ++ uses [(x, .pt o off)], c, [], .rd o (.box Tb cells)⟩ :: recs))) :
    EvK P n ops (⟨dst, .load t x, ty, pos, after, guard⟩ :: l) L ob kf :=
  ev_rd (o := ⟨dst, .load t x, ty, pos, after, guard⟩) ho [(x, .pt o off)] ⟨hx, trivial⟩ hg hn (fun ob m γ w a ho hi h => by
    obtain ⟨b, y, e1, e2, e3⟩ := load_box_one hi ho hk h.1 ht
    exact ⟨y, by simp [execOp, e1, Instr.loadAt, Instr.sureAddr, e2], e3⟩) kk

/-! ### Addresses -/
theorem run_fieldAt {s f off : Nat} (h : fld P s f = some off) (w : World) (b o : Nat) : (Instr.fieldAt s (.pointer (some ⟨b, o, none⟩)) f).run P w = .ok (.pointer (some ⟨b, o + off, none⟩)) w := by
  unfold fld at h
  cases hu : P.underlying s with
  | none => simp [hu] at h
  | some d =>
    cases d with
    | struct fs =>
      simp only [hu] at h
      cases hf : fs[f]? with
      | none => simp [hf] at h
      | some fd =>
        simp only [hf] at h
        cases hi : P.info? fd.type with
        | none => simp [hi] at h
        | some i =>
          simp only [hi] at h
          by_cases hz : i.size = 0
          · simp [hz] at h
          · simp only [hz, if_false, Option.some.injEq] at h
            simp [Instr.fieldAt, run_underlying hu, hf, Instr.sureAddr, fieldPlace, sizeOf, typeInfo, hi, hz, add_addr, h]
    | _ => simp [hu] at h
theorem ev_fieldAddr_pt {s f off : Nat} {x : Operand} {o p : Nat} (q : Nat) (hf : fld P s f = some off) (hx : aeval L x = some (.pt o p)) (hq : p + off = q) (hg : Gd ops L guard gu) (hn : ∀ d, dst = some d → d < n)
    (kk : EvK P n ops l (updL L dst (.pt o q) []) ob (fun recs => kf (⟨dst, gu ++ uses [(x, .pt o p)], .pt o q, [], .pure⟩ :: recs))) : EvK P n ops (⟨dst, .fieldAddr s x f, ty, pos, after, guard⟩ :: l) L ob kf := by
  subst hq
  exact ev_val0 (o := ⟨dst, .fieldAddr s x f, ty, pos, after, guard⟩) [(x, .pt o p)] ⟨hx, trivial⟩ hg hn (fun m γ w a hm h => by
    obtain ⟨b, C, h1, h2⟩ := rep_ptr h.1
    exact ⟨_, by simp [execOp, h2, run_fieldAt hf]; rfl, by simp only [Rep]; exact ⟨b, C, h1, rfl⟩⟩) kk
theorem ev_fieldAddr_pf {s f off : Nat} {x : Operand} {cs : List AV} (out : List AV) (hf : fld P s f = some off) (hx : aeval L x = some (.pf cs)) (hout : cs.drop off = out) (hg : Gd ops L guard gu) (hn : ∀ d, dst = some d → d < n)
    (kk : EvK P n ops l (updL L dst (.pf out) []) ob (fun recs => kf (⟨dst, gu ++ uses [(x, .pf cs)], .pf out, [], .pure⟩ :: recs))) : EvK P n ops (⟨dst, .fieldAddr s x f, ty, pos, after, guard⟩ :: l) L ob kf := by
  subst hout
  exact ev_val0 (o := ⟨dst, .fieldAddr s x f, ty, pos, after, guard⟩) [(x, .pf cs)] ⟨hx, trivial⟩ hg hn (fun m γ w a hm h => by
    have h1 := h.1
    simp only [Rep] at h1
    obtain ⟨b, o, h2, h3⟩ := h1
    refine ⟨_, by simp [execOp, h2, run_fieldAt hf]; rfl, ?_⟩
    simp only [Rep]
    exact ⟨b, o + off, rfl, repCells_drop h3 off⟩) kk
theorem ev_nilCheck {x : Operand} {av : AV} (hx : aeval L x = some av) (hav : match av with | .pt _ _ | .pf _ => True | _ => False) (hg : Gd ops L guard gu) (hn : ∀ d, dst = some d → d < n)
    (kk : EvK P n ops l (updL L dst av []) ob (fun recs => kf (⟨dst, gu ++ uses [(x, av)], av, [], .pure⟩ :: recs))) : EvK P n ops (⟨dst, .nilCheck x, ty, pos, after, guard⟩ :: l) L ob kf :=
  ev_val0 (o := ⟨dst, .nilCheck x, ty, pos, after, guard⟩) [(x, av)] ⟨hx, trivial⟩ hg hn (fun m γ w a hm h => by
    have h1 := h.1
    cases av with
    | pt o p => obtain ⟨b, C, h2, h3⟩ := rep_ptr h1; exact ⟨a.eval x, by simp [execOp, h3], h1⟩
    | pf cs => have h2 := h1; simp only [Rep] at h2; obtain ⟨b, o, h3, h4⟩ := h2; exact ⟨a.eval x, by simp [execOp, h3], h1⟩
    | _ => exact hav.elim) kk
theorem ev_extract {x : Operand} {i : Nat} {vs : List AV} {av : AV} (hx : aeval L x = some (.tu vs)) (hi : vs[i]? = some av) (hg : Gd ops L guard gu) (hn : ∀ d, dst = some d → d < n)
    (kk : EvK P n ops l (updL L dst av []) ob (fun recs => kf (⟨dst, gu ++ uses [(x, .tu vs)], av, [], .pure⟩ :: recs))) : EvK P n ops (⟨dst, .extract x i, ty, pos, after, guard⟩ :: l) L ob kf :=
  ev_val0 (o := ⟨dst, .extract x i, ty, pos, after, guard⟩) [(x, .tu vs)] ⟨hx, trivial⟩ hg hn (fun m γ w a hm h => by
    have h1 := h.1
    simp only [Rep] at h1
    obtain ⟨xs, h2, h3⟩ := h1
    obtain ⟨y, h4, h5⟩ := repVals_get h3 i av hi
    exact ⟨y, by simp [execOp, h2, Instr.extract, h4], h5⟩) kk
end
end Go.Am
