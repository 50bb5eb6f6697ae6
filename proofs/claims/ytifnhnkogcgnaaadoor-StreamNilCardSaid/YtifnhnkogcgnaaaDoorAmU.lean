/-
  An abstract machine, part U: what the program runs is so: regions, code, functions.
-/
import Derived.Test.YtifnhnkogcgnaaaDoorAmT
namespace Go.Am

theorem steps_inv {P : Program} {n : Nat} {ops : Array Oper} {L gu : Loc} {o : Oper} {ob : List Ob} {out : Out} (H : Steps P n ops L gu o ob out) :
    Sub (gu ++ uses out.2.2.2) L ∧ (∀ d, o.dst = some d → d < n) ∧ StepK P ops o ⟨o.dst, gu ++ uses out.2.2.2, out.1, [], out.2.1⟩ ob out.2.2.1 := by
  obtain ⟨recs, L2, ob2, hev, rfl, rfl⟩ := H (l := []) (kf := fun recs _ ob2 => recs = [⟨o.dst, gu ++ uses out.2.2.2, out.1, [], out.2.1⟩] ∧ ob2 = out.2.2.1) (evk_nil ⟨rfl, rfl⟩)
  cases hev with
  | cons hus hdst hn hst h =>
    cases h with
    | nil => exact ⟨hus, hn, hst⟩
theorem skip_inv {P : Program} {n : Nat} {ops : Array Oper} {L gu : Loc} {o : Oper} {ob : List Ob} (hg : Gx ops L o.guard gu) (hn : ∀ d, o.dst = some d → d < n) :
    Sub gu L ∧ StepK P ops o ⟨o.dst, gu, .v undef, [], .pure⟩ ob ob := by
  obtain ⟨recs, L2, ob2, hev, rfl, rfl⟩ := ev_skip (P := P) (l := []) (ob := ob) (kf := fun recs _ ob2 => recs = [⟨o.dst, gu, .v undef, [], .pure⟩] ∧ ob2 = ob) hg hn (evk_nil ⟨rfl, rfl⟩)
  cases hev with
  | cons hus hdst hn hst h =>
    cases h with
    | nil => exact ⟨hus, hst⟩
theorem gdE_true {l : List Oper} {L gu : Loc} {g : Option (Nat × Bool)} (h : gdE l L g = some (true, gu)) : Gd l.toArray L g gu := by
  unfold gdE at h
  split at h
  · simp only [Option.some.injEq, Prod.mk.injEq, true_and] at h; subst h; exact .none
  · rename_i j want
    split at h
    · rename_i q hq
      split at h
      · rename_i t ht
        split at h
        · rename_i b hb
          simp only [Option.some.injEq, Prod.mk.injEq] at h
          obtain ⟨h1, rfl⟩ := h
          have e : b = want := by cases b <;> cases want <;> simp_all
          subst e
          exact .some (by simp [hq, ht]) hb
        · cases h
      · cases h
    · cases h
theorem gdE_false {l : List Oper} {L gu : Loc} {g : Option (Nat × Bool)} (h : gdE l L g = some (false, gu)) : Gx l.toArray L g gu := by
  unfold gdE at h
  split at h
  · simp at h
  · rename_i j want
    split at h
    · rename_i q hq
      split at h
      · rename_i t ht
        split at h
        · rename_i b hb
          simp only [Option.some.injEq, Prod.mk.injEq] at h
          obtain ⟨h1, rfl⟩ := h
          exact .some (by simp [hq, ht]) hb (by cases b <;> cases want <;> simp_all)
        · cases h
      · cases h
    · cases h
theorem dstB_spec {n : Nat} {d : Option Nat} (h : dstB n d = true) : ∀ e, d = some e → e < n := by
  rintro e rfl
  simp [dstB, Nat.blt] at h; omega
theorem lk_ups (d : Nat) (av : AV) : ∀ (M : Loc) (t : Nat), lk (ups d av M) t = if d = t then some av else lk M t
  | [], t => by simp only [ups]; rw [lk_cons]
  | (s, b) :: M, t => by
    simp only [ups]
    cases hs : Nat.beq s d with
    | true =>
      have := Nat.eq_of_beq_eq_true hs
      subst this
      simp only [cond_true]
      rw [lk_cons, lk_cons]
      split <;> rfl
    | false =>
      have := Nat.ne_of_beq_eq_false hs
      simp only [cond_false]
      rw [lk_cons, lk_cons, lk_ups d av M t]
      by_cases h1 : s = t
      · subst h1; simp [Ne.symm this]
      · simp [h1]
theorem lk_upsO {M L : Loc} (h : ∀ t, lk M t = lk L t) (d : Option Nat) (av : AV) : ∀ t, lk (upsO M d av) t = lk (updL L d av []) t := by
  intro t
  unfold upsO updL killA
  cases d with
  | none => exact h t
  | some d => simp only; rw [lk_ups, lk_cons, h]
theorem aeval_ext {M L : Loc} (h : ∀ t, lk M t = lk L t) : aeval M = aeval L := by
  funext x
  cases x <;> simp [aeval, h]
theorem gdE_ext {M L : Loc} (h : ∀ t, lk M t = lk L t) (l : List Oper) (g : Option (Nat × Bool)) : gdE l M g = gdE l L g := by
  unfold gdE
  simp [h]
theorem stepK_tm {P : Program} {ops : Array Oper} {o : Oper} {rc : Rec} {ob ob' : List Ob} (h : StepK P ops o rc ob ob') : ∀ i, i < tmOf ob.length rc.kind → ob'[i]? = ob[i]? := by
  intro i hi
  unfold StepK at h
  split at h
  · rw [h.1]
  · rw [h.1]
  · rename_i hk; rw [hk] at hi; simp [tmOf] at hi
  · rename_i k old new hk
    rw [hk] at hi
    simp only [tmOf] at hi
    rw [h.2.1, List.getElem?_set_ne (by omega)]
  · rw [h.2.1]
  · rename_i k hk
    rw [hk] at hi
    exact h.1 i hi

section
variable {P : Program} {n : Nat} {callf : FuncId → List AV → List Ob → Option (AV × List Ob × Nat)} {pu : FuncId → Bool}
theorem runOps_sound (hcf : CallOk P callf) (all : List Oper) : ∀ {l : List Oper} {M : Loc} {ob : List Ob} {tm : Nat} {recs : List Rec} {M2 : Loc} {ob2 : List Ob} {tm2 : Nat}, runOps P n callf pu all l M ob tm = some (recs, M2, ob2, tm2) → ∀ {L : Loc}, (∀ t, lk M t = lk L t) →
    ∃ L2, Ev P n all.toArray l recs L ob L2 ob2 ∧ (∀ t, lk M2 t = lk L2 t) ∧ (∀ rc ∈ recs, rc.ks = []) ∧ tm2 ≤ tm ∧ ∀ i, i < tm2 → ob2[i]? = ob[i]?
  | [], M, ob, tm, recs, M2, ob2, tm2, h, L, hM => by
    simp only [runOps, Option.some.injEq, Prod.mk.injEq] at h
    obtain ⟨rfl, rfl, rfl, rfl⟩ := h
    exact ⟨L, .nil _ _, hM, by simp, Nat.le_refl _, fun _ _ => rfl⟩
  | o :: l, M, ob, tm, recs, M2, ob2, tm2, h, L, hM => by
    simp only [runOps] at h
    rw [gdE_ext hM] at h
    split at h
    · cases h
    · rename_i gu hgd
      cases hd : dstB n o.dst with
      | false => rw [hd] at h; cases h
      | true =>
        rw [hd] at h
        simp only [cond_true] at h
        split at h
        · rename_i recs' M2' ob2' tm2' hr
          cases h
          obtain ⟨k1, k2⟩ := skip_inv (P := P) (ob := ob) (gdE_false hgd) (dstB_spec hd)
          obtain ⟨L2, g1, g2, g3, g4, g5⟩ := runOps_sound hcf all hr (lk_upsO hM o.dst (.v undef))
          exact ⟨L2, .cons k1 rfl (dstB_spec hd) k2 g1, g2, fun rc hrc => by
            cases List.mem_cons.1 hrc with
            | inl e => subst e; rfl
            | inr e => exact g3 rc e, g4, g5⟩
        · cases h
    · rename_i gu hgd
      cases hd : dstB n o.dst with
      | false => rw [hd] at h; cases h
      | true =>
        rw [hd] at h
        simp only [cond_true] at h
        rw [aeval_ext hM] at h
        split at h
        · rename_i r kd ob1 xs hx
          split at h
          · rename_i recs' M2' ob2' tm2' hr
            cases h
            obtain ⟨dst, op, ty, pos, after, guard⟩ := o
            obtain ⟨k1, k2, k3⟩ := steps_inv (exec_sound (gdE_true hgd) (dstB_spec hd) hcf hx)
            obtain ⟨L2, g1, g2, g3, g4, g5⟩ := runOps_sound hcf all hr (lk_upsO hM dst r)
            have htm := stepK_tm k3
            exact ⟨L2, .cons k1 rfl k2 k3 g1, g2, fun rc hrc => by
              cases List.mem_cons.1 hrc with
              | inl e => subst e; rfl
              | inr e => exact g3 rc e, Nat.le_trans g4 (Nat.min_le_left _ _), fun i hi => (g5 i hi).trans (htm i (Nat.lt_of_lt_of_le hi (Nat.le_trans g4 (Nat.min_le_right _ _))))⟩
          · cases h
        · cases h

theorem keepChk_nil {K : Nat} {recs : List Rec} (h : ∀ rc ∈ recs, rc.ks = []) : keepChk K [] recs = true := by
  simp only [keepChk, List.all_eq_true]
  intro rc hrc
  rw [h rc hrc]
theorem awp_regionS {K : Nat} {Q : APost} {id : Nat} {l : List Oper} {draw : Bool} {recs : List Rec} {L L2 M2 : Loc} {ob ob2 : List Ob} (hm : P.follows .mixedOrders = true) (hev : Ev P n l.toArray l recs L ob L2 ob2) (hM : ∀ t, lk M2 t = lk L2 t) (hks : ∀ rc ∈ recs, rc.ks = []) (hd : draw = true → drawOk l recs = true) (hq : Q .normal M2 ob2) :
    awp P n K [] (.region id l.toArray draw) Q L ob := by
  intro m γ w a hi hl hs hdf
  have hk := keepChk_nil (K := K) hks
  have hsub : Sub M2 L2 := fun t av e => .inl (by rw [← hM]; exact e)
  cases draw with
  | false =>
    refine wp_region_lit ?_
    exact ev_sound hev hi hl hs fun m' γ' w' a' ht hi' hl' hs' hd' hk' =>
      ⟨m', γ', M2, ob2, .normal, hq, trivial, ht, hi', hl'.sub hsub, hs', hd'.trans hdf, fun o g ho hg => hk' o g (keepChk_spec hk ho) hg⟩
  | true =>
    exact region_any hm hev (hd rfl) hi hl hs fun m' γ' w' a' ht hi' hl' hs' hd' hk' =>
      ⟨m', γ', M2, ob2, .normal, hq, trivial, ht, hi', hl'.sub hsub, hs', hd'.trans hdf, fun o g ho hg => hk' o g (keepChk_spec hk ho) hg⟩

def Good (s s' : St) : Prop := s'.2.2 ≤ s.2.2 ∧ ∀ i, i < s'.2.2 → s'.2.1[i]? = s.2.1[i]?
theorem Good.refl (s : St) : Good s s := ⟨Nat.le_refl _, fun _ _ => rfl⟩
theorem Good.trans {a b c : St} (h : Good a b) (k : Good b c) : Good a c := ⟨Nat.le_trans k.1 h.1, fun i hi => (k.2 i hi).trans (h.2 i (Nat.lt_of_lt_of_le hi k.1))⟩

def Runs (P : Program) (n : Nat) (c : Code) (s : St) (x : AX) (s' : St) : Prop := (∀ (K : Nat) (Q : APost), Q x s'.1 s'.2.1 → awp P n K [] c Q s.1 s.2.1) ∧ Good s s'
theorem loop_sound {c : Code} {step : St → Option (AX × St)} (hstep : ∀ s x s', step s = some (x, s') → Runs P n c s x s') {lf : Nat} {s : St} {x : AX} {s' : St} (h : loopN step lf s = some (x, s')) : Runs P n (.loop c) s x s' := by
  refine ⟨fun K Q hq => ?_, ?_⟩
  · refine awp_loop (ι := Nat × St) (fun i => i.2.1) (fun i => i.2.2.1) (fun i => loopN step i.1 i.2 = some (x, s')) (fun i => i.1) (lf, s) h (Sub.refl _) rfl ?_
    rintro ⟨k, t⟩ hI
    cases k with
    | zero => simp [loopN] at hI
    | succ k =>
      simp only [loopN] at hI
      split at hI
      · rename_i s1 h1
        exact (hstep _ _ _ h1).1 K _ ⟨(k, s1), hI, Nat.lt_succ_self k, Sub.refl _, rfl⟩
      · rename_i hne
        refine (hstep _ _ _ hI).1 K _ ?_
        cases x with
        | normal => exact absurd hI (hne s')
        | _ => exact hq
  · induction lf generalizing s with
    | zero => simp [loopN] at h
    | succ k ih =>
      simp only [loopN] at h
      split at h
      · rename_i s1 h1; exact (hstep _ _ _ h1).2.trans (ih h)
      · exact (hstep _ _ _ h).2
theorem runCode_sound (hcf : CallOk P callf) (hm : P.follows .mixedOrders = true) (lf : Nat) : ∀ (c : Code) {s : St} {x : AX} {s' : St}, runCode P n callf pu lf c s = some (x, s') → Runs P n c s x s'
  | .skip, s, x, s', h => by simp only [runCode, Option.some.injEq, Prod.mk.injEq] at h; obtain ⟨rfl, rfl⟩ := h; exact ⟨fun K Q hq => awp_skip hq, Good.refl _⟩
  | .label l, s, x, s', h => by simp only [runCode, Option.some.injEq, Prod.mk.injEq] at h; obtain ⟨rfl, rfl⟩ := h; exact ⟨fun K Q hq => awp_label hq, Good.refl _⟩
  | .ret, s, x, s', h => by simp only [runCode, Option.some.injEq, Prod.mk.injEq] at h; obtain ⟨rfl, rfl⟩ := h; exact ⟨fun K Q hq => awp_ret hq, Good.refl _⟩
  | .exit id, s, x, s', h => by simp only [runCode, Option.some.injEq, Prod.mk.injEq] at h; obtain ⟨rfl, rfl⟩ := h; exact ⟨fun K Q hq => awp_exit hq, Good.refl _⟩
  | .region id ops draw, (M, ob, tm), x, s', h => by
    simp only [runCode] at h
    split at h
    · rename_i recs s2 hr
      obtain ⟨M2, ob2, tm2⟩ := s2
      obtain ⟨L2, g1, g2, g3, g4, g5⟩ := runOps_sound hcf ops.toList hr (L := M) (fun _ => rfl)
      have key : x = .normal ∧ s' = (M2, ob2, tm2) ∧ (draw = true → drawOk ops.toList recs = true) := by
        cases draw with
        | false => simp only [Option.some.injEq, Prod.mk.injEq] at h; exact ⟨h.1.symm, by rw [← h.2], by simp⟩
        | true =>
          simp only at h
          cases hd : drawOk ops.toList recs with
          | false => rw [hd] at h; cases h
          | true => rw [hd] at h; simp only [cond_true, Option.some.injEq, Prod.mk.injEq] at h; exact ⟨h.1.symm, by rw [← h.2], fun _ => rfl⟩
      obtain ⟨rfl, rfl, hd⟩ := key
      refine ⟨fun K Q hq => ?_, g4, g5⟩
      have := awp_regionS (id := id) (K := K) (Q := Q) hm g1 g2 g3 hd hq
      simpa using this
    · cases h
  | .seq a b, s, x, s', h => by
    simp only [runCode] at h
    split at h
    · rename_i s1 h1
      obtain ⟨k1, k2⟩ := runCode_sound hcf hm lf a h1
      obtain ⟨k3, k4⟩ := runCode_sound hcf hm lf b h
      exact ⟨fun K Q hq => awp_seq (k1 K _ (k3 K Q hq)), k2.trans k4⟩
    · rename_i hne
      obtain ⟨k1, k2⟩ := runCode_sound hcf hm lf a h
      refine ⟨fun K Q hq => awp_seq (k1 K _ ?_), k2⟩
      cases x with
      | normal => exact absurd h (hne s')
      | _ => exact hq
  | .cond c a b, s, x, s', h => by
    simp only [runCode] at h
    split at h
    · rename_i hc
      obtain ⟨k1, k2⟩ := runCode_sound hcf hm lf a h
      exact ⟨fun K Q hq => awp_cond hc (fun _ => k1 K Q hq) (fun e => by cases e), k2⟩
    · rename_i hc
      obtain ⟨k1, k2⟩ := runCode_sound hcf hm lf b h
      exact ⟨fun K Q hq => awp_cond hc (fun e => by cases e) (fun _ => k1 K Q hq), k2⟩
    · cases h
  | .block id c, s, x, s', h => by
    simp only [runCode] at h
    unfold blockR at h
    split at h
    · rename_i j s1 h1
      obtain ⟨k1, k2⟩ := runCode_sound hcf hm lf c h1
      cases hj : Nat.beq j id with
      | true =>
        rw [hj] at h
        have := Nat.eq_of_beq_eq_true hj
        subst this
        simp only [cond_true, Option.some.injEq, Prod.mk.injEq] at h
        obtain ⟨rfl, rfl⟩ := h
        exact ⟨fun K Q hq => awp_block (k1 K _ (by simpa [blockP] using hq)), k2⟩
      | false =>
        rw [hj] at h
        have hne := Nat.ne_of_beq_eq_false hj
        simp only [cond_false, Option.some.injEq, Prod.mk.injEq] at h
        obtain ⟨rfl, rfl⟩ := h
        exact ⟨fun K Q hq => awp_block (k1 K _ (by simpa [blockP, hne] using hq)), k2⟩
    · rename_i hne
      obtain ⟨k1, k2⟩ := runCode_sound hcf hm lf c h
      refine ⟨fun K Q hq => awp_block (k1 K _ ?_), k2⟩
      cases x with
      | exit j => exact absurd h (hne j s')
      | _ => exact hq
  | .loop c, s, x, s', h => by
    simp only [runCode] at h
    exact loop_sound (fun _ _ _ h => runCode_sound hcf hm lf c h) h
  | .goto _, s, x, s', h => by simp [runCode] at h
  | .scope _, s, x, s', h => by simp [runCode] at h
  | .rangeFunc _ _ _ _, s, x, s', h => by simp [runCode] at h
  | .refuse _, s, x, s', h => by simp [runCode] at h
end

theorem resE_sound {P : Program} {M : Loc} {ob : List Ob} : ∀ {rs : List ResultVar} {avs : List AV}, resE P M ob rs = some avs → ResV P M ob rs avs
  | [], avs, h => by simp only [resE, Option.some.injEq] at h; subst h; exact .nil
  | .tmp t :: rs, avs, h => by
    simp only [resE] at h
    split at h
    · rename_i av as h1 h2; cases h; exact .tmp h1 (resE_sound h2)
    · cases h
  | .cell t ty :: rs, avs, h => by
    simp only [resE] at h
    split at h
    · rename_i o off g k as h1 h2 h3
      split at h
      · rename_i cells ho
        split at h
        · cases hb : Nat.ble (off + k) cells.length with
          | false => rw [hb] at h; cases h
          | true => rw [hb] at h; cases h; exact .agg h2 h1 ho (Nat.le_of_ble_eq_true hb) (resE_sound h3)
        · split at h
          · rename_i c hc; cases h; exact .one h2 h1 ho hc (resE_sound h3)
          · cases h
      · cases h
    · cases h
theorem drop_sound {P : Program} {f : FuncId} {args : List AV} {ob ob1 : List Ob} {r : AV} {tm : Nat} (h : ARet P f args ob [] r ob1) (htm : tm ≤ ob.length) (hp : ∀ i, i < tm → ob1[i]? = ob[i]?) :
    ARet P f args ob [] r (dropE ob.length r ob1) ∧ ∀ i, i < tm → (dropE ob.length r ob1)[i]? = ob[i]? := by
  unfold dropE
  cases hc : Nat.ble ob.length ob1.length && r.und ob.length && (ob1.take ob.length).all (Ob.und ob.length) with
  | false => exact ⟨h, hp⟩
  | true =>
    simp only [Bool.and_eq_true] at hc
    have hle := Nat.le_of_ble_eq_true hc.1.1
    have hlen : (ob1.take ob.length).length = ob.length := by simp; omega
    refine ⟨aret_drop (h.mono fun e o ⟨h1, h2⟩ => ⟨h1, ob1.drop ob.length, by rw [h2]; simp⟩) (by simp only [cond_true]; omega) (by simp only [cond_true]; rw [hlen]; exact hc.1.2) (by simp only [cond_true]; rw [hlen]; exact hc.2), fun i hi => ?_⟩
    simp only [cond_true]
    rw [List.getElem?_take, if_pos (by omega)]
    exact hp i hi
theorem runFn_sound {P : Program} (hm : P.follows .mixedOrders = true) (pu : FuncId → Bool) (lf : Nat) : ∀ k, CallOk P (runFn P pu lf k)
  | 0 => fun f args ob r ob1 tm h => by simp [runFn] at h
  | k + 1 => fun f args ob r ob1 tm h => by
    simp only [runFn] at h
    split at h
    · rename_i fn hf
      split at h
      · rename_i c hb
        cases hc : Nat.ble args.length fn.ntmps && !(fn.name == "runtime.NumGoroutine") with
        | false => rw [hc] at h; cases h
        | true =>
          rw [hc] at h
          simp only [Bool.and_eq_true, Bool.not_eq_true'] at hc
          simp only [cond_true] at h
          unfold endE at h
          split at h
          · rename_i x M ob2 tm2 hrun
            obtain ⟨k1, k2, k3⟩ := runCode_sound (runFn_sound hm pu lf k) hm lf c hrun
            have key : ∀ avs, resE P M ob2 fn.results.toList = some avs → (x = .normal ∨ x = .ret) → ARet P f args ob [] (resOf avs) ob2 := by
              intro avs ha hx
              refine acalls_of_awp hf hc.2 hb (Nat.le_of_ble_eq_true hc.1) (k1 ob.length _ ?_)
              rcases hx with rfl | rfl
              · exact ⟨avs, resE_sound ha, rfl, rfl⟩
              · exact ⟨avs, resE_sound ha, rfl, rfl⟩
            split at h
            · split at h
              · rename_i avs ha
                simp only [Option.some.injEq, Prod.mk.injEq] at h
                obtain ⟨rfl, rfl, rfl⟩ := h
                exact drop_sound (key avs ha (.inl rfl)) k2 k3
              · cases h
            · split at h
              · rename_i avs ha
                simp only [Option.some.injEq, Prod.mk.injEq] at h
                obtain ⟨rfl, rfl, rfl⟩ := h
                exact drop_sound (key avs ha (.inr rfl)) k2 k3
              · cases h
            · cases h
          · cases h
      · cases h
    · cases h
end Go.Am
