/-
  An abstract machine, part U: what the program runs is so: trees, regions, code.
-/
import Derived.Test.YtobehholoenaiaaGreatDoorAmT
import Derived.Test.YtobehholoenaiaaGreatDoorAmS
import Derived.Scope
namespace Go.Am

/-! ### Trees -/
section
variable {α : Type}
theorem tri_get_n (v : Option α) (l r : Tri α) (t : Nat) : (Tri.n v l r).get t = cond (Nat.beq t 0) v (cond (Nat.beq (t % 2) 0) (l.get (t / 2)) (r.get (t / 2))) := rfl
theorem tri_get_e (t : Nat) : (Tri.e : Tri α).get t = none := rfl
theorem tri_new_zero (av : α) (t : Nat) : Tri.new av 0 t = .n (some av) .e .e := rfl
theorem tri_new_succ (av : α) (k t : Nat) : Tri.new av (k + 1) t = cond (Nat.beq t 0) (.n (some av) .e .e) (cond (Nat.beq (t % 2) 0) (.n none (Tri.new av k (t / 2)) .e) (.n none .e (Tri.new av k (t / 2)))) := rfl
theorem tri_set_e (av : α) (t : Nat) : Tri.set av .e t = Tri.new av t t := rfl
theorem tri_set_n (av : α) (v : Option α) (l r : Tri α) (t : Nat) : Tri.set av (.n v l r) t = cond (Nat.beq t 0) (.n (some av) l r) (cond (Nat.beq (t % 2) 0) (.n v (Tri.set av l (t / 2)) r) (.n v l (Tri.set av r (t / 2)))) := rfl
theorem beq_eq (a b : Nat) : Nat.beq a b = decide (a = b) := by
  cases h : Nat.beq a b with
  | true => simp [Nat.eq_of_beq_eq_true h]
  | false => simp [Nat.ne_of_beq_eq_false h]
theorem tri_get_new (av : α) : ∀ (k t s : Nat), t ≤ k → (Tri.new av k t).get s = if t = s then some av else none
  | 0, t, s, h => by
    have : t = 0 := by omega
    subst this
    rw [tri_new_zero, tri_get_n, beq_eq, beq_eq]
    by_cases hs : s = 0
    · subst hs; simp
    · rw [if_neg (Ne.symm hs)]; simp [hs, tri_get_e]
  | k + 1, t, s, h => by
    rw [tri_new_succ, beq_eq, beq_eq]
    by_cases ht : t = 0
    · subst ht
      simp only [decide_true, cond_true]
      rw [tri_get_n, beq_eq, beq_eq]
      by_cases hs : s = 0
      · subst hs; simp
      · rw [if_neg (Ne.symm hs)]; simp [hs, tri_get_e]
    · have ih := tri_get_new av k (t / 2) (s / 2) (by omega)
      simp only [ht, decide_false, cond_false]
      by_cases hp : t % 2 = 0
      · simp only [hp, decide_true, cond_true]
        rw [tri_get_n, beq_eq, beq_eq]
        by_cases hs : s = 0
        · subst hs; simp [ht]
        · by_cases hq : s % 2 = 0
          · simp only [hs, decide_false, cond_false, hq, decide_true, cond_true, ih]
            by_cases e : t / 2 = s / 2
            · rw [if_pos e, if_pos (by omega)]
            · rw [if_neg e, if_neg (fun h => e (by rw [h]))]
          · simp only [hs, decide_false, cond_false, hq, tri_get_e]
            rw [if_neg (fun h => hq (by rw [← h]; exact hp))]
      · simp only [hp, decide_false, cond_false]
        rw [tri_get_n, beq_eq, beq_eq]
        by_cases hs : s = 0
        · subst hs; simp [ht]
        · by_cases hq : s % 2 = 0
          · simp only [hs, decide_false, cond_false, hq, decide_true, cond_true, tri_get_e]
            rw [if_neg (fun h => hp (by rw [h]; exact hq))]
          · simp only [hs, decide_false, cond_false, hq, ih]
            by_cases e : t / 2 = s / 2
            · rw [if_pos e, if_pos (by omega)]
            · rw [if_neg e, if_neg (fun h => e (by rw [h]))]
theorem tri_get_set (av : α) : ∀ (m : Tri α) (t s : Nat), (Tri.set av m t).get s = if t = s then some av else m.get s
  | .e, t, s => by rw [tri_set_e, tri_get_new av t t s (Nat.le_refl _), tri_get_e]
  | .n v l r, t, s => by
    rw [tri_set_n, beq_eq, beq_eq]
    by_cases ht : t = 0
    · subst ht
      simp only [decide_true, cond_true]
      rw [tri_get_n, tri_get_n, beq_eq, beq_eq]
      by_cases hs : s = 0
      · subst hs; simp
      · rw [if_neg (Ne.symm hs)]; simp [hs]
    · simp only [ht, decide_false, cond_false]
      by_cases hp : t % 2 = 0
      · simp only [hp, decide_true, cond_true]
        rw [tri_get_n, tri_get_n, beq_eq, beq_eq, tri_get_set av l (t / 2) (s / 2)]
        by_cases hs : s = 0
        · subst hs; simp [ht]
        · by_cases hq : s % 2 = 0
          · simp only [hs, decide_false, cond_false, hq, decide_true, cond_true]
            by_cases e : t / 2 = s / 2
            · rw [if_pos e, if_pos (by omega)]
            · rw [if_neg e, if_neg (fun h => e (by rw [h]))]
          · simp only [hs, decide_false, cond_false, hq]
            rw [if_neg (fun h => hq (by rw [← h]; exact hp))]
      · simp only [hp, decide_false, cond_false]
        rw [tri_get_n, tri_get_n, beq_eq, beq_eq, tri_get_set av r (t / 2) (s / 2)]
        by_cases hs : s = 0
        · subst hs; simp [ht]
        · by_cases hq : s % 2 = 0
          · simp only [hs, decide_false, cond_false, hq, decide_true, cond_true]
            rw [if_neg (fun h => hp (by rw [h]; exact hq))]
          · simp only [hs, decide_false, cond_false, hq]
            by_cases e : t / 2 = s / 2
            · rw [if_pos e, if_pos (by omega)]
            · rw [if_neg e, if_neg (fun h => e (by rw [h]))]
end
theorem triOk_get : ∀ (l : List Ob) (k : Nat) (O : Tri Ob), (∀ i, k ≤ i → O.get i = none) → ∀ i, (triOk k l O).get i = if i < k then O.get i else l[i - k]?
  | [], k, O, h, i => by
    simp only [triOk, List.getElem?_nil]
    split
    · rfl
    · exact h i (by omega)
  | X :: l, k, O, h, i => by
    rw [triOk, triOk_get l (k + 1) (O.set X k) (fun j hj => by rw [tri_get_set, if_neg (by omega)]; exact h j (by omega)) i, tri_get_set]
    by_cases h1 : i < k
    · rw [if_pos (by omega), if_pos h1, if_neg (by omega)]
    · rw [if_neg h1]
      by_cases h2 : k = i
      · subst h2; rw [if_pos (by omega), if_pos rfl]; simp
      · rw [if_neg (by omega)]
        rw [show i - k = (i - (k + 1)) + 1 from by omega, List.getElem?_cons_succ]

/-! ### What the trees stand for -/
def RelM (M : Tri AV) (L : Loc) : Prop := ∀ t, M.get t = lk L t
def RelO (O : Tri Ob) (N : Nat) (ob : List Ob) : Prop := ob.length = N ∧ ∀ i, O.get i = ob[i]?
theorem RelO.nil : RelO .e 0 [] := ⟨rfl, fun i => by simp [tri_get_e]⟩
theorem RelO.fun {O : Tri Ob} {N : Nat} {ob : List Ob} (h : RelO O N ob) : O.get = fun i => ob[i]? := funext h.2
theorem RelO.uniq {O : Tri Ob} {N : Nat} {ob ob' : List Ob} (h : RelO O N ob) (k : RelO O N ob') : ob = ob' := by
  apply List.ext_getElem?
  intro i
  rw [← h.2, ← k.2]
theorem RelM.tev {M : Tri AV} {L : Loc} (h : RelM M L) : tev M = aeval L := by
  funext x
  cases x with
  | tmp t => exact h t
  | const v => cases v <;> rfl
  | global g => rfl
  | func f => rfl
theorem RelM.up {M : Tri AV} {L : Loc} (h : RelM M L) (d : Option Nat) (av : AV) : RelM (upT M av d) (updL L d av []) := by
  intro t
  unfold upT updL killA
  cases d with
  | none => exact h t
  | some d => simp only; rw [tri_get_set, lk_cons, h]
theorem RelO.app {O : Tri Ob} {N : Nat} {ob : List Ob} (h : RelO O N ob) (d : Dl) : RelO (appO O N d) (appN N d) (d.app ob) := by
  obtain ⟨rfl, h2⟩ := h
  have hset : ∀ k X, RelO (cond (Nat.blt k ob.length) (O.set X k) O) ob.length (ob.set k X) := by
    intro k X
    refine ⟨by simp, fun i => ?_⟩
    cases hb : Nat.blt k ob.length with
    | true =>
      have hk : k < ob.length := by simp [Nat.blt] at hb; omega
      simp only [cond_true]
      rw [tri_get_set, List.getElem?_set, h2]
      by_cases e : k = i
      · subst e; simp [hk]
      · simp [e]
    | false =>
      have hk : ¬ k < ob.length := fun hk => by
        have : Nat.blt k ob.length = true := Nat.ble_eq_true_of_le hk
        rw [hb] at this; cases this
      simp only [cond_false]
      rw [h2, List.set_eq_of_length_le (by omega)]
  have hpush : ∀ (O : Tri Ob) (l : List Ob) (X : Ob), RelO O l.length l → RelO (O.set X l.length) (l.length + 1) (l ++ [X]) := by
    rintro O l X ⟨_, g⟩
    refine ⟨by simp, fun i => ?_⟩
    rw [tri_get_set, g]
    by_cases e : l.length = i
    · subst e; simp
    · rw [if_neg e]
      by_cases hi : i < l.length
      · rw [List.getElem?_append_left hi]
      · rw [List.getElem?_append_right (by omega), List.getElem?_eq_none (by omega)]
        rw [List.getElem?_eq_none (by simp; omega)]
  cases d with
  | keep => exact ⟨rfl, h2⟩
  | set k X => exact hset k X
  | push X => exact hpush O ob X ⟨rfl, h2⟩
  | kpush k X =>
    have h3 := hset k .dead
    have h4 := hpush _ (ob.set k .dead) X (by rw [List.length_set]; exact h3)
    rw [List.length_set] at h4
    exact h4
theorem triOk_rel : ∀ (l : List Ob) (O : Tri Ob) (N : Nat) (ob : List Ob), RelO O N ob → RelO (triOk N l O) (N + l.length) (ob ++ l) := by
  intro l O N ob h
  obtain ⟨rfl, h2⟩ := h
  refine ⟨by simp, fun i => ?_⟩
  rw [triOk_get l ob.length O (fun i hi => by rw [h2]; exact List.getElem?_eq_none hi) i, h2]
  by_cases hi : i < ob.length
  · rw [if_pos hi, List.getElem?_append_left hi]
  · rw [if_neg hi, List.getElem?_append_right (by omega)]
theorem RelM.nil : RelM .e [] := fun _t => rfl
theorem relM_args : ∀ (args : List AV) (k : Nat) (M : Tri AV) (L : Loc), RelM M L → (∀ t, k ≤ t → lk L t = none) → ∃ L', RelM (argT k args M) L' ∧ ∀ t, lk L' t = if t < k then lk L t else lk (argLoc k args) t
  | [], k, M, L, h, hk => ⟨L, h, fun t => by
    by_cases e : t < k
    · rw [if_pos e]
    · rw [if_neg e, hk t (by omega)]; rfl⟩
  | av :: r, k, M, L, h, hk => by
    obtain ⟨L', h1, h2⟩ := relM_args r (k + 1) (M.set av k) ((k, av) :: L) (fun t => by rw [tri_get_set, lk_cons, h]) (fun t ht => by rw [lk_cons, if_neg (by omega), hk t (by omega)])
    refine ⟨L', h1, fun t => ?_⟩
    rw [h2]
    simp only [argLoc]
    rw [lk_cons, lk_cons]
    by_cases e : t < k
    · rw [if_pos (by omega), if_pos e, if_neg (by omega)]
    · rw [if_neg e]
      by_cases e2 : k = t
      · subst e2; rw [if_pos (by omega), if_pos rfl, if_pos rfl]
      · rw [if_neg e2, if_neg (by omega), if_neg e2]
theorem relM_argT (args : List AV) : RelM (argT 0 args .e) (argLoc 0 args) := by
  obtain ⟨L', h1, h2⟩ := relM_args args 0 .e [] RelM.nil (fun t _ => rfl)
  intro t
  rw [h1 t, h2 t, if_neg (by omega)]

/-! ### One operation -/
theorem steps_inv {P : Program} {n : Nat} {ops : Array Oper} {L gu : Loc} {o : Oper} {ob : List Ob} {out : Out} (H : Steps P n ops L gu o ob out) :
    Sub (gu ++ uses out.2.2.2) L ∧ (∀ d, o.dst = some d → d < n) ∧ StepK P ops o ⟨o.dst, gu ++ uses out.2.2.2, out.1, [], out.2.1⟩ ob (out.2.2.1.app ob) := by
  obtain ⟨recs, L2, ob2, hev, rfl, rfl⟩ := H (l := []) (kf := fun recs _ ob2 => recs = [⟨o.dst, gu ++ uses out.2.2.2, out.1, [], out.2.1⟩] ∧ ob2 = out.2.2.1.app ob) (evk_nil ⟨rfl, rfl⟩)
  cases hev with
  | cons hus hdst hn hst h =>
    cases h with
    | nil => exact ⟨hus, hn, hst⟩
theorem evk_inv {P : Program} {n : Nat} {ops : Array Oper} {L : Loc} {o : Oper} {ob ob' : List Ob} {rc : Rec} (H : ∀ kf : List Rec → Loc → List Ob → Prop, EvK P n ops [] (upd L rc) ob' (fun recs => kf (rc :: recs)) → EvK P n ops [o] L ob kf) :
    Sub rc.us L ∧ rc.dst = o.dst ∧ (∀ d, o.dst = some d → d < n) ∧ StepK P ops o rc ob ob' := by
  obtain ⟨recs, L2, ob2, hev, h1, h2⟩ := H (fun recs _ ob2 => recs = [rc] ∧ ob2 = ob') (evk_nil ⟨rfl, rfl⟩)
  subst h1; subst h2
  cases hev with
  | cons hus hdst hn hst h =>
    cases h with
    | nil => exact ⟨hus, hdst, hn, hst⟩
theorem skip_inv {P : Program} {n : Nat} {ops : Array Oper} {L gu : Loc} {o : Oper} {ob : List Ob} (hg : Gx ops L o.guard gu) (hn : ∀ d, o.dst = some d → d < n) :
    Sub gu L ∧ StepK P ops o ⟨o.dst, gu, .v undef, [], .pure⟩ ob ob := by
  obtain ⟨recs, L2, ob2, hev, rfl, rfl⟩ := ev_skip (P := P) (l := []) (ob := ob) (kf := fun recs _ ob2 => recs = [⟨o.dst, gu, .v undef, [], .pure⟩] ∧ ob2 = ob) hg hn (evk_nil ⟨rfl, rfl⟩)
  cases hev with
  | cons hus hdst hn hst h =>
    cases h with
    | nil => exact ⟨hus, hst⟩
theorem gdE_true {l : List Oper} {M : Tri AV} {L gu : Loc} (hM : RelM M L) {g : Option (Nat × Bool)} (h : gdE l M g = .ok true gu) : Gd l.toArray L g gu := by
  unfold gdE at h
  split at h
  · simp only [GR.ok.injEq, true_and] at h; subst h; exact .none
  · rename_i j want
    split at h
    · rename_i q hq
      split at h
      · rename_i t ht
        rw [hM t] at h
        split at h
        · rename_i b hb
          simp only [GR.ok.injEq] at h
          obtain ⟨h1, rfl⟩ := h
          have e : b = want := by cases b <;> cases want <;> simp_all
          subst e
          exact .some (by simp [hq, ht]) hb
        · simp at h
        · cases h
      · cases h
    · cases h
theorem gdE_false {l : List Oper} {M : Tri AV} {L gu : Loc} (hM : RelM M L) {g : Option (Nat × Bool)} (h : gdE l M g = .ok false gu) : Gx l.toArray L g gu := by
  unfold gdE at h
  split at h
  · simp at h
  · rename_i j want
    split at h
    · rename_i q hq
      split at h
      · rename_i t ht
        rw [hM t] at h
        split at h
        · rename_i b hb
          simp only [GR.ok.injEq] at h
          obtain ⟨h1, rfl⟩ := h
          exact .some (by simp [hq, ht]) hb (by cases b <;> cases want <;> simp_all)
        · rename_i hb
          simp only [GR.ok.injEq, true_and] at h
          subst h
          exact .und (by simp [hq, ht]) hb
        · cases h
      · cases h
    · cases h
theorem dstB_spec {n : Nat} {d : Option Nat} (h : dstB n d = true) : ∀ e, d = some e → e < n := by
  rintro e rfl
  simp [dstB, Nat.blt] at h; omega
theorem un_low {t : TM} {k i : Nat} (h : tb (t.low k).lo i = false) : tb t.lo i = false ∧ tb k i = false := by
  have h' : tb (Nat.lor t.lo k) i = false := h
  rw [tb_lor, Bool.or_eq_false_iff] at h'
  exact h'
theorem un_meet {a b : TM} {i : Nat} (h : tb (a.meet b).lo i = false) : tb a.lo i = false ∧ tb b.lo i = false := by
  have h' : tb (Nat.lor a.lo b.lo) i = false := h
  rw [tb_lor, Bool.or_eq_false_iff] at h'
  exact h'
theorem un_mod {t N i : Nat} (h : Nat.beq (Nat.mod t (Nat.pow 2 N)) 0 = true) (hi : i < N) : tb t i = false := by
  have h1 : t % 2 ^ N = 0 := Nat.eq_of_beq_eq_true h
  have h2 := Nat.testBit_mod_two_pow t N i
  rw [h1, Nat.zero_testBit] at h2
  rw [tb_eq]
  simpa [hi] using h2.symm
theorem un_bitsF {N k i : Nat} (h : tb (bitsF N k) i = false) : i < N ∨ N + k ≤ i := by
  rw [tb_eq] at h
  have h' : ((2 ^ k - 1) <<< N).testBit i = false := h
  rw [Nat.testBit_shiftLeft, Nat.testBit_two_pow_sub_one] at h'
  by_cases h1 : i < N
  · exact .inl h1
  · right
    simp at h'
    omega
theorem objsF_eq {O : Tri Ob} {k : Nat} {ob : List Ob} (h : RelO O k ob) (N : Nat) : objsF O N k 0 = ob.map (Ob.ren (fsel [] N)) := by
  have hf : fsel [] N = shf N := by
    funext i
    simp [fsel, shf]
  have key : ∀ (j i : Nat), i + j = k → objsF O N j i = (ob.drop i).map (Ob.ren (fsel [] N)) := by
    intro j
    induction j with
    | zero =>
      intro i hi
      rw [List.drop_of_length_le (by rw [h.1]; omega)]
      rfl
    | succ j ih =>
      intro i hi
      have hlt : i < ob.length := by rw [h.1]; omega
      have hd : ob.drop i = ob[i] :: ob.drop (i + 1) := List.drop_eq_getElem_cons hlt
      have hg : O.get i = some ob[i] := by rw [h.2, List.getElem?_eq_getElem hlt]
      show (match O.get i with | some X => X.ren (shf N) | none => .dead) :: objsF O N j (Nat.succ i) = _
      rw [hd, hg, List.map_cons, hf, ← hf, ih (i + 1) (by omega), hf]
  rw [key k 0 (by omega), List.drop_zero]
theorem objsL_eq {O : Tri Ob} {k : Nat} {ob : List Ob} (h : RelO O k ob) : objsL O k 0 = ob := by
  have key : ∀ (j i : Nat), i + j = k → objsL O j i = ob.drop i := by
    intro j
    induction j with
    | zero =>
      intro i hi
      rw [List.drop_of_length_le (by rw [h.1]; omega)]
      rfl
    | succ j ih =>
      intro i hi
      have hlt : i < ob.length := by rw [h.1]; omega
      have hd : ob.drop i = ob[i] :: ob.drop (i + 1) := List.drop_eq_getElem_cons hlt
      have hg : O.get i = some ob[i] := by rw [h.2, List.getElem?_eq_getElem hlt]
      show (match O.get i with | some X => X | none => .dead) :: objsL O j (Nat.succ i) = _
      rw [hd, hg, ih (i + 1) (by omega)]
  rw [key k 0 (by omega), List.drop_zero]
theorem frzR_ok {P : Program} {f : FuncId} {args : List AV} {r r' : AV} {O : Tri Ob} {N : Nat} {ob1 : List Ob} (h : frzR f r O N = some r') (hO : RelO O N ob1) (ha : ARet P f args [] [] r ob1) : ARet P f args [] [] r' [] ∧ r'.pure = true := by
  unfold frzR at h
  cases hc : frzF.any (Nat.beq f) with
  | false => rw [hc] at h; cases h
  | true =>
    rw [hc] at h
    simp only [cond_true] at h
    rw [objsL_eq hO] at h
    split at h
    · rename_i r2 hr
      cases hp : r2.pure with
      | false => rw [hp] at h; cases h
      | true =>
        rw [hp] at h
        cases h
        exact ⟨aret_frzAll (ob := []) ha 60 rfl hr (und_pure 0 _ hp), hp⟩
    · cases h
theorem appO_get {O : Tri Ob} {N : Nat} {d : Dl} {i : Nat} (h : tb (tmD N d) i = false) : (appO O N d).get i = O.get i := by
  have hs : ∀ (b : Bool) (k : Nat) (X : Ob), k ≠ i → (cond b (O.set X k) O).get i = O.get i := by
    intro b k X hk
    cases b with
    | true => rw [cond_true, tri_get_set, if_neg hk]
    | false => rfl
  cases d with
  | keep => rfl
  | set k X => exact hs _ k X (un_bit h)
  | push X =>
    show (O.set X N).get i = _
    rw [tri_get_set, if_neg (un_bit h)]
  | kpush k X =>
    have h' : tb (Nat.lor (bit k) (bit N)) i = false := h
    rw [tb_lor, Bool.or_eq_false_iff] at h'
    show ((cond (Nat.blt k N) (O.set .dead k) O).set X N).get i = _
    rw [tri_get_set, if_neg (un_bit h'.2)]
    exact hs _ k _ (un_bit h'.1)

/-- A call that panics. -/
def APan (P : Program) (f : FuncId) (args : List AV) (ob : List Ob) (av : AV) (ob' : List Ob) : Prop := ACalls P f args ob [] fun e o => e = .panic av ∧ o = ob'
def Kept (O O' : Tri Ob) (tm tm' : TM) : Prop := (∀ i, tb tm'.lo i = false → tb tm.lo i = false) ∧ ∀ i, tb tm'.lo i = false → O'.get i = O.get i
theorem Kept.refl (O : Tri Ob) (tm : TM) : Kept O O tm tm := ⟨fun _ h => h, fun _ _ => rfl⟩
def allT : List Bool → Bool
  | [] => true
  | b :: l => b && allT l
theorem allT_append : ∀ {l r : List Bool}, allT (l ++ r) = true → allT r = true
  | [], _, h => h
  | b :: l, r, h => by
    simp only [List.cons_append, allT, Bool.and_eq_true] at h
    exact allT_append h.2
/-- what was asked before is asked still -/
def Ext (t t' : TM) : Prop := ∃ l, t'.ok = l ++ t.ok
theorem Ext.refl (t : TM) : Ext t t := ⟨[], rfl⟩
theorem Ext.trans {a b c : TM} (h : Ext a b) (k : Ext b c) : Ext a c := by
  obtain ⟨l, h⟩ := h; obtain ⟨r, k⟩ := k
  exact ⟨r ++ l, by rw [k, h, List.append_assoc]⟩
theorem Ext.ok {a b : TM} (h : Ext a b) (k : allT b.ok = true) : allT a.ok = true := by
  obtain ⟨l, h⟩ := h
  rw [h] at k
  exact allT_append k
theorem askq_lo (tm : TM) (p : Bool) : (tm.askq p).lo = tm.lo := by
  obtain ⟨a, g, o⟩ := tm
  cases g <;> rfl
theorem askq_ext (tm : TM) (p : Bool) : Ext tm (tm.askq p) := by
  obtain ⟨a, g, o⟩ := tm
  cases g with
  | nil => exact ⟨[], rfl⟩
  | cons => exact ⟨[p], rfl⟩
theorem askq_all {tm : TM} {p : Bool} (h : allT (tm.askq p).ok = true) : allT tm.ok = true := (askq_ext tm p).ok h
theorem syn_real {tm : TM} {p s : Bool} (h : tm.syn p s = true) (k : allT (tm.askq p).ok = true) : p = true := by
  obtain ⟨a, g, o⟩ := tm
  cases g with
  | nil => exact h
  | cons =>
    simp only [TM.askq, allT, Bool.and_eq_true] at k
    exact k.1
theorem syn_false {tm : TM} {p : Bool} (h : tm.syn p false = true) : p = true := by
  obtain ⟨a, g, o⟩ := tm
  cases g with
  | nil => exact h
  | cons => cases h
theorem syn_take {t u : TM} {p s : Bool} : (t.take u).syn p s = u.syn p s := by
  obtain ⟨a, g, o⟩ := t
  obtain ⟨a', g', o'⟩ := u
  cases g' <;> rfl
theorem Kept.trans {O O1 O2 : Tri Ob} {a b c : TM} (h : Kept O O1 a b) (k : Kept O1 O2 b c) : Kept O O2 a c := ⟨fun i hi => h.1 i (k.1 i hi), fun i hi => (k.2 i hi).trans (h.2 i (k.1 i hi))⟩
/-- what a yield does, by the loop's object -/
def YCall (P : Program) (o : Nat) (args : List AV) (ob : List Ob) (r : AV) (ob1 : List Ob) : Prop :=
  ∀ m γ w vs l C, Inv m γ ob w → γ o = some (some (l, C)) → RepVals m γ args vs → ∃ fn tmps assign body, (Instr.yield l vs.toArray).run P w = .ok (.round l fn tmps assign body) w ∧
    RoundIn (wideR none) 0 P l fn tmps assign body w fun e w' => ∃ v m' γ', e = .returned v ∧ Rep m' γ' r v ∧ Trans m γ w m' γ' w' ∧ Inv m' γ' ob1 w' ∧ Le m γ [] m' γ'
/-- .. a call -/
def FRet (P : Program) (f : FuncId) (args : List AV) (ob : List Ob) (r : AV) (ob1 : List Ob) : Prop := (f < yBase → ARet P f args ob [] r ob1) ∧ ∀ o, f = yBase + o → YCall P o args ob r ob1
theorem FRet.of {P : Program} {f : FuncId} {args : List AV} {ob : List Ob} {r : AV} {ob1 : List Ob} (hf : f < yBase) (h : ARet P f args ob [] r ob1) : FRet P f args ob r ob1 := ⟨fun _ => h, fun o e => absurd hf (by rw [e]; exact Nat.not_lt.2 (Nat.le_add_right _ _))⟩
/-- what is known of the functions that are called -/
def CallOk (P : Program) (callf : CallF) : Prop := ∀ f args O N tm,
  (∀ r O1 N1 t1, callf f args O N tm = .ret r O1 N1 t1 → Ext tm t1 ∧ (allT t1.ok = true → ∀ ob, RelO O N ob → ∃ ob1, RelO O1 N1 ob1 ∧ FRet P f args ob r ob1 ∧ ∀ i, tb t1.lo i = false → O1.get i = O.get i)) ∧
  (∀ av O1 N1 t1, callf f args O N tm = .pan av O1 N1 t1 → f < yBase ∧ Ext tm t1 ∧ (allT t1.ok = true → ∀ ob, RelO O N ob → ∃ ob1, RelO O1 N1 ob1 ∧ APan P f args ob av ob1 ∧ ∀ i, tb t1.lo i = false → O1.get i = O.get i))

/-- an operation that panics -/
def PStep (P : Program) (ops : Array Oper) (o : Oper) (L : Loc) (ob : List Ob) (av : AV) (ob' : List Ob) : Prop :=
  ∀ (m : Mem) (γ : Gam) (w : World) (a : Act) (K : Act → World → Prop) (Q : Exit → Act → World → Prop), Inv m γ ob w → RepLoc m γ a L →
    (∀ m' γ' w' v, Trans m γ w m' γ' w' → Le m γ [] m' γ' → Inv m' γ' ob' w' → Rep m' γ' av v → Q (.panic [{ v, recovered := false }]) a w') →
    Region.wanted o (yielded ops a.tmps) = true ∧ o.wp P a w K Q
theorem gd_want {ops : Array Oper} {L gu : Loc} {o : Oper} (hg : Gd ops L o.guard gu) {m : Mem} {γ : Gam} {a : Act} (hl : RepLoc m γ a L) : Region.wanted o (yielded ops a.tmps) = true := by
  unfold Region.wanted
  generalize o.guard = g at hg
  cases hg with
  | none => rfl
  | some hj hl' =>
    have := yielded_of hl hj hl'
    simp [this]
theorem repLoc_all {m m' : Mem} {γ γ' : Gam} {a : Act} {L : Loc} (h : RepLoc m γ a L) (hle : Le m γ [] m' γ') : RepLoc m' γ' a L :=
  fun t av e => ⟨(h t av e).1, rep_le hle av _ (AV.free_nil av) (h t av e).2⟩

theorem repXs_all {m : Mem} {γ : Gam} {a : Act} {L : Loc} (hl : RepLoc m γ a L) : ∀ {xs : List (Operand × AV)}, EvalAll L xs → RepXs m γ a xs
  | [], _ => trivial
  | (_, _) :: _, h => ⟨rep_eval hl h.1, repXs_all hl h.2⟩

section
variable {P : Program} {n : Nat} {callf : CallF} {pu : FuncId → Bool} {ops : Array Oper}
theorem pan_call {L gu : Loc} {ob ob1 : List Ob} {av : AV} {x : Operand} {f : FuncId} {fs cs avs : List AV} {args : List Operand} {xs : List (Operand × AV)} {ts : Array TypeId} {dst : Option Nat} {ty : TypeId} {pos : String} {after : Array Edge} {guard : Option (Nat × Bool)}
    (hg : Gd ops L guard gu) (hx : aeval L x = some (.fn (.func f) fs cs)) (ha : EvA L args avs xs) (hc : APan P f (fs ++ (avs ++ cs)) ob av ob1) :
    PStep P ops ⟨dst, .call ⟨.value x, args.toArray, ts⟩, ty, pos, after, guard⟩ L ob av ob1 := by
  intro m γ w a K Q hi hl hq
  refine ⟨gd_want (o := ⟨dst, .call ⟨.value x, args.toArray, ts⟩, ty, pos, after, guard⟩) hg hl, ?_⟩
  have h1 := rep_eval hl hx
  simp only [Rep] at h1
  obtain ⟨us, vs, e, r1, r2⟩ := h1
  obtain ⟨⟨fn, hf, hname, hb⟩, hc⟩ := hc
  have hxs : RepXs m γ a xs := repXs_all hl (evA_all ha)
  unfold Oper.wp
  rw [run_call hf hname hb (first := us) (cap := vs) e, Oper.upon_enter]
  refine (hc m γ w (us ++ args.map a.eval ++ vs) hi ?_).mono ?_
  · rw [List.append_assoc]
    exact repVals_append r1 (repVals_append (evA_reps ha hxs) r2)
  · rintro e w' ⟨m', γ', r', ob', ⟨rfl, rfl⟩, h2, h3, h4, h5⟩
    cases e with
    | returned v => exact h2.elim
    | panicked chain =>
      obtain ⟨v, rfl, hv⟩ := h2
      exact hq m' γ' w' v h3 ⟨h3.mem, fun o g hg hk => h5 o g hk hg⟩ h4 hv
    | outgrown => exact h2.elim
theorem pan_op {L gu : Loc} {ob : List Ob} {t : TypeId} {y : AV} {x : Operand} {dst : Option Nat} {ty : TypeId} {pos : String} {after : Array Edge} {guard : Option (Nat × Bool)}
    (hg : Gd ops L guard gu) (hx : aeval L x = some (.ifc t y)) : PStep P ops ⟨dst, .panic x, ty, pos, after, guard⟩ L ob (.ifc t y) ob := by
  intro m γ w a K Q hi hl hq
  refine ⟨gd_want (o := ⟨dst, .panic x, ty, pos, after, guard⟩) hg hl, ?_⟩
  have h1 := rep_eval hl hx
  have h2 := h1
  simp only [Rep] at h1
  obtain ⟨z, e, _⟩ := h1
  unfold Oper.wp
  have : (execOp a.eval ⟨dst, .panic x, ty, pos, after, guard⟩).run P w = .halt (.panic (.iface t z)) w := by
    simp only [execOp, e, Sem.run_bind]
    rfl
  rw [this, Oper.upon_panic]
  rw [e] at h2
  exact hq m γ w _ (Trans.refl _ _ _) (Le.refl _ _ _) hi h2
theorem run_cally {a : Act} {x : Operand} {args : List Operand} {ts : Array TypeId} {dst : Option Nat} {ty : TypeId} {pos : String} {after : Array Edge} {guard : Option (Nat × Bool)} {l : Nat} (hx : a.eval x = .func (.yield l) #[] #[]) (w : World) :
    (execOp a.eval ⟨dst, .call ⟨.value x, args.toArray, ts⟩, ty, pos, after, guard⟩).run P w = (Instr.yield l (args.map a.eval).toArray).run P w := by
  simp [execOp, resolve, hx, Deferred.ofValue, invoke]
theorem step_yl {L gu : Loc} {ob ob1 : List Ob} {r : AV} {x : Operand} {o lo : Nat} {avs : List AV} {args : List Operand} {xs : List (Operand × AV)} {ts : Array TypeId} {dst : Option Nat} {ty : TypeId} {pos : String} {after : Array Edge} {guard : Option (Nat × Bool)}
    (hg : Gd ops L guard gu) (hx : aeval L x = some (.yl o)) (ha : EvA L args avs xs) (hc : YCall P o avs ob r ob1) (hpre : ∀ i, tb lo i = false → ob1[i]? = ob[i]?) :
    Sub (gu ++ uses ((x, .yl o) :: xs)) L ∧ StepK P ops ⟨dst, .call ⟨.value x, args.toArray, ts⟩, ty, pos, after, guard⟩ ⟨dst, gu ++ uses ((x, .yl o) :: xs), r, [], .yl lo⟩ ob ob1 := by
  have hall : EvalAll L ((x, .yl o) :: xs) := ⟨hx, evA_all ha⟩
  have hkeep := keepL_append (gd_keep hg) (uses_keep hall)
  refine ⟨keepL_sub hkeep, hpre, fun m γ w a K Q hi hl hK => ?_⟩
  have hw := gd_wanted (o := ⟨dst, .call ⟨.value x, args.toArray, ts⟩, ty, pos, after, guard⟩) hg hkeep hl (fun p hp => by simp [hp])
  simp only [hw, if_true]
  have hxs := repXs_of hkeep hl hall (fun p hp => by simp [hp])
  obtain ⟨h1, h2⟩ := hxs
  simp only [Rep] at h1
  obtain ⟨l, C, g1, e⟩ := h1
  refine .inr ⟨rfl, fun ro => ⟨fun _ _ => trivial, ?_⟩⟩
  have hs : Oper.semAt (wideR ro).round a.eval ⟨dst, .call ⟨.value x, args.toArray, ts⟩, ty, pos, after, guard⟩ = execOp a.eval ⟨dst, .call ⟨.value x, args.toArray, ts⟩, ty, pos, after, guard⟩ := Oper.semAt_eq _ _ _ (fun c hc => by cases hc)
  obtain ⟨fn, tmps, as, bd, y1, y2⟩ := hc m γ w (args.map a.eval) l C hi g1 (evA_reps ha h2)
  rw [hs, run_cally e, y1, Oper.uponIn_round]
  refine ⟨fun h => (by cases h), roundInR (y2.mono ?_)⟩
  rintro e2 w2 ⟨v, m2, γ2, rfl, k1, k2, k3, k4⟩
  exact hK m2 γ2 w2 v k2 k4 k3 k1
end
end Go.Am
