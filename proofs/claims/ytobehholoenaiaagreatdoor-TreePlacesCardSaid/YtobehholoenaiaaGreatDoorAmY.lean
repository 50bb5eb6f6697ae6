/-
  An abstract machine, part Y: what the program runs is so: functions, deferred functions.
-/
import Derived.Test.YtobehholoenaiaaGreatDoorAmW
namespace Go.Am

section
variable {P : Program} {callf : CallF} {pu : FuncId → Bool}
theorem resE_ok {M : Tri AV} {L : Loc} {O : Tri Ob} {N : Nat} {ob : List Ob} (hM : RelM M L) (hO : RelO O N ob) : ∀ {rs : List ResultVar} {avs : List AV}, resE P M O rs = some avs → ResV P L ob rs avs
  | [], avs, h => by simp only [resE, Option.some.injEq] at h; subst h; exact .nil
  | .tmp t :: rs, avs, h => by
    simp only [resE] at h
    split at h
    · rename_i av as h1 h2; cases h; exact .tmp ((hM t).symm.trans h1) (resE_ok hM hO h2)
    · cases h
  | .cell t ty :: rs, avs, h => by
    simp only [resE] at h
    split at h
    · rename_i o off g k as h1 h2 h3
      have h1' := (hM t).symm.trans h1
      split at h
      · rename_i cells ho
        have ho' := (hO.2 o).symm.trans ho
        split at h
        · cases hb : Nat.ble (off + k) cells.length with
          | false => rw [hb] at h; cases h
          | true => rw [hb] at h; cases h; exact .agg h2 h1' ho' (Nat.le_of_ble_eq_true hb) (resE_ok hM hO h3)
        · split at h
          · rename_i c hc; cases h; exact .one h2 h1' ho' hc (resE_ok hM hO h3)
          · cases h
      · cases h
    · cases h
theorem le_of_kept {m m' : Mem} {γ γ' : Gam} {ob : List Ob} {w w' : World} (hi : Inv m γ ob w) (ht : Trans m γ w m' γ' w') (hk : ∀ o g, kept ob.length [] o → γ o = some g → γ' o = some g) : Le m γ [] m' γ' :=
  ⟨ht.mem, fun o g hg _ => hk o g ⟨hi.len o (by rw [hg]; simp), rfl⟩ hg⟩
theorem Le.all {m m1 m2 : Mem} {γ γ1 γ2 : Gam} (h : Le m γ [] m1 γ1) (k : Le m1 γ1 [] m2 γ2) : Le m γ [] m2 γ2 :=
  ⟨fun b x e => k.mem b x (h.mem b x e), fun o g hg hc => k.gam o g (h.gam o g hg hc) hc⟩

/-- a call's objects at its end, forgotten if the call was handed none -/
theorem retE_ok {f : FuncId} {args : List AV} {ob : List Ob} {M : Tri AV} {O O0 : Tri Ob} {N : Nat} {tm tm0 : TM} {rs : List ResultVar} (h0 : RelO O0 ob.length ob) (hA : ∀ avs, resE P M O rs = some avs → ∃ ob1, RelO O N ob1 ∧ ARet P f args ob [] (resOf avs) ob1) (hk : Kept O0 O tm0 tm)
    {r : AV} {O1 : Tri Ob} {N1 : Nat} {t1 : TM} (h : retE P ob.length rs M O N tm = .ret r O1 N1 t1) : ∃ ob1, RelO O1 N1 ob1 ∧ ARet P f args ob [] r ob1 ∧ ∀ i, tb t1.lo i = false → O1.get i = O0.get i := by
  unfold retE at h
  split at h
  · rename_i avs hr
    obtain ⟨ob1, h1, h2⟩ := hA avs hr
    unfold dropR at h
    cases hc : Nat.beq ob.length 0 && (!Nat.beq N 0 && tm.syn ((resOf avs).und 0) false) with
    | false =>
      rw [hc] at h
      cases h
      exact ⟨ob1, h1, h2, hk.2⟩
    | true =>
      rw [hc] at h
      simp only [Bool.and_eq_true] at hc
      cases h
      have : ob = [] := List.eq_nil_of_length_eq_zero (Nat.eq_of_beq_eq_true hc.1)
      subst this
      exact ⟨[], RelO.nil, aret_drop (h2.mono fun e o ⟨g1, g2⟩ => ⟨g1, o, by simp⟩) (Nat.le_refl _) (syn_false hc.2.2) rfl, fun i _ => by rw [h0.2]; simp [tri_get_e]⟩
  · cases h
theorem retE_ext {N0 : Nat} {M : Tri AV} {O : Tri Ob} {N : Nat} {tm : TM} {rs : List ResultVar} {r : AV} {O1 : Tri Ob} {N1 : Nat} {t1 : TM} (h : retE P N0 rs M O N tm = .ret r O1 N1 t1) : t1.ok = tm.ok := by
  unfold retE at h
  split at h
  · rename_i avs _
    unfold dropR at h
    cases hc : Nat.beq N0 0 && (!Nat.beq N 0 && tm.syn ((resOf avs).und 0) false) <;> (rw [hc] at h; cases h; rfl)
  · cases h
theorem retE_pan {N0 : Nat} {M : Tri AV} {O : Tri Ob} {N : Nat} {tm : TM} {rs : List ResultVar} {av : AV} {O1 : Tri Ob} {N1 : Nat} {t1 : TM} (h : retE P N0 rs M O N tm = .pan av O1 N1 t1) : False := by
  unfold retE at h
  split at h
  · rename_i avs _
    unfold dropR at h
    cases hc : Nat.beq N0 0 && (!Nat.beq N 0 && tm.syn ((resOf avs).und 0) false) <;> (rw [hc] at h; cases h)
  · cases h

/-! ### Deferred functions -/
theorem Marks.out {rf : Bool} {ds0 ds : List Deferred} {w0 : World} {γ : Gam} {w : World} (h : Marks rf ds0 w0 ds γ w) (hr : rf = false) : ds = ds0 := by
  obtain ⟨Ds, h1, h2, _⟩ := h
  rcases h2 with h2 | h2
  · rw [hr] at h2; cases h2
  · rw [h1, h2]; rfl
theorem noYl_spec {recs : List Rec} (h : noYl recs = true) : ∀ rc ∈ recs, rc.kind.isYl = false := by
  intro rc hrc
  have := List.all_eq_true.1 h rc hrc
  simpa using this
def DOk (P : Program) (g : FuncId) (args : List AV) (pan : Option AV) (ob ob' : List Ob) : Prop :=
  ∀ (m : Mem) (γ : Gam) (w : World) (vs : List Value) (u : FrameMode), Inv m γ ob w → RepVals m γ args vs →
    (match pan with
      | none => u = .returning
      | some av => ∃ v, u = .panicking [{ v, recovered := false }] ∧ Rep m γ av v) →
    CallsD P g vs.toArray u w fun e u' w' => (∃ v, e = .returned v) ∧ settle u' = .returning ∧ ∃ m' γ', Trans m γ w m' γ' w' ∧ Inv m' γ' ob' w' ∧ Le m γ [] m' γ'
theorem wpOpsS_of {ops : Array Oper} {Q : Exit → Act → List Frame → World → Prop} {cs : List Frame} (hQ : ∀ a w, ¬ Q .outgrown a cs w) : ∀ (l : List Nat) (a : Act) (w : World), wpOps P ops (fun e a w => Q e a cs w) l a w → wpOpsS P ops Q l a cs w
  | [], a, w, h => h
  | i :: l, a, w, h => by
    unfold wpOps at h
    unfold wpOpsS
    split at h
    · rename_i ho; simp only [ho]; exact wpOpsS_of hQ l a w h
    · rename_i o ho
      simp only [ho]
      split at h
      · rename_i hw
        rw [if_pos hw]
        have hup := h.resolve_right (fun ⟨_, a0, w0, hq⟩ => hQ a0 w0 hq)
        unfold Oper.wp at hup
        cases hr : (execOp a.eval o).run P w with
        | ok x w' =>
          rw [hr] at hup
          cases x <;> simp only [Oper.upon] at hup ⊢ <;> first
            | exact hup.elim
            | exact wpOpsS_of hQ l _ _ hup
            | (refine hup.mono fun e w2 h2 => ?_
               cases e with
               | returned v => exact wpOpsS_of hQ l _ _ h2
               | panicked chain => exact h2
               | outgrown => exact h2)
            | exact hup.mono fun v w2 h2 => wpOpsS_of hQ l _ _ h2
        | halt x w' =>
          rw [hr] at hup
          cases x <;> simp only [Oper.upon] at hup ⊢ <;> first
            | exact hup.elim
            | exact hup
      · rename_i hw
        rw [if_neg hw]
        exact wpOpsS_of hQ l _ _ h
theorem splitR_spec {c : Code} {d : Option Nat} {all l : List Oper} {b : Code} (h : splitR c = some (d, all, l, b)) :
    ∃ id ts ty pos af, all = ⟨d, .call ⟨.builtin .recover, #[], ts⟩, ty, pos, af, none⟩ :: l ∧ c = .seq (.region id all.toArray false) b := by
  unfold splitR at h
  split at h
  · rename_i id d' ts ty pos af l' b'
    simp only [Option.some.injEq, Prod.mk.injEq] at h
    obtain ⟨rfl, rfl, rfl, rfl⟩ := h
    exact ⟨id, ts, ty, pos, af, rfl, rfl⟩
  · cases h
theorem def_ok (hcf : CallOk P callf) (hm : P.follows .mixedOrders = true) (lf : Nat) {g : FuncId} {args : List AV} {pan : Option AV} {O O' : Tri Ob} {N N' : Nat} {tm tm' : TM}
    (h : runDef P pu lf callf g args pan O N tm = .ok O' N' tm') : Ext tm tm' ∧ (allT tm'.ok = true → ∀ ob, RelO O N ob → ∃ ob', RelO O' N' ob' ∧ DOk P g args pan ob ob' ∧ Kept O O' tm tm') := by
  unfold runDef at h
  split at h
  rotate_left; · cases h
  rename_i fn hf
  split at h
  rotate_left; · cases h
  rename_i c hb
  split at h
  rotate_left; · cases h
  rename_i d all l b hsp
  obtain ⟨id, ts, ty, pos, af, rfl, rfl⟩ := splitR_spec hsp
  cases hc : Nat.ble args.length fn.ntmps && Nat.blt d fn.ntmps && fn.results.toList.isEmpty && !(fn.name == "runtime.NumGoroutine") with
  | false => rw [hc] at h; cases h
  | true =>
    rw [hc] at h
    simp only [Bool.and_eq_true, Bool.not_eq_true'] at hc
    obtain ⟨⟨⟨c1, c2⟩, c3⟩, c4⟩ := hc
    have c1 := Nat.le_of_ble_eq_true c1
    have c2 : d < fn.ntmps := by simp [Nat.blt] at c2; omega
    have c3 : fn.results.toList = [] := by simpa using c3
    simp only [cond_true] at h
    have hM1 : RelM ((argT 0 args .e).set (panV pan) d) (updL (argLoc 0 args) (some d) (panV pan) []) := (relM_argT args).up (some d) _
    unfold recR at h
    split at h
    rotate_left; · cases h
    rename_i recs M2 O2 N2 t2 hro
    have hro' : runOps P fn.ntmps callf pu (⟨some d, .call ⟨.builtin .recover, #[], ts⟩, ty, pos, af, none⟩ :: l) l ((argT 0 args .e).set (panV pan) d) O N tm = .ok recs M2 O2 N2 t2 := hro
    cases hny : noYl recs with
    | false => rw [hny] at h; cases h
    | true =>
    rw [hny] at h
    simp only [cond_true] at h
    cases hbrf : b.rf with
    | true => rw [hbrf] at h; cases h
    | false =>
    rw [hbrf] at h
    simp only [cond_false] at h
    have hbr : ∃ x2 M3, (x2 = .normal ∨ x2 = .ret) ∧ runCode P fn.ntmps callf pu lf b M2 O2 N2 t2 = .ok x2 M3 O' N' tm' := by
      unfold endDR at h
      split at h
      · rename_i M3 O3 N3 t3 hx; cases h; exact ⟨_, M3, .inl rfl, hx⟩
      · rename_i M3 O3 N3 t3 hx; cases h; exact ⟨_, M3, .inr rfl, hx⟩
      · cases h
    obtain ⟨x2, M3, hx2, hrb⟩ := hbr
    obtain ⟨e2, k2⟩ := runCode_ok hcf hm lf b hrb
    have e1 := (runOps_ext (pu := pu) (n := fn.ntmps) hcf (⟨some d, .call ⟨.builtin .recover, #[], ts⟩, ty, pos, af, none⟩ :: l) l).1 hro'
    refine ⟨e1.trans e2, fun hok ob hO => ?_⟩
    have hrun := runOps_ok (pu := pu) (n := fn.ntmps) hcf (⟨some d, .call ⟨.builtin .recover, #[], ts⟩, ty, pos, af, none⟩ :: l) l hM1 hO tm
    rw [hro'] at hrun
    obtain ⟨L2, ob2, g1, g2, g3, g4, g5⟩ := hrun (e2.ok hok)
    have hb2 := k2 hok ⟨L2, ob2, g1, g2⟩
    obtain ⟨⟨L3, ob3, q1, q2⟩, q3⟩ := hb2.2 L2 ob2 g1 g2
    refine ⟨ob3, q2, ?_, g5.trans hb2.1⟩
    intro m γ w vs u hi hv hu
    have hlen := repVals_length hv
    refine callsD_of_wpS hf hb fun c₀ cs hmode => ?_
    -- what recover hands back
    have hrec : ∃ v u' , Rep m γ (panV pan) v ∧ settle u' = .returning ∧ ((recoverD (c₀ :: cs) = some (v, { c₀ with mode := u' } :: cs)) ∨ (recoverD (c₀ :: cs) = none ∧ v = .nilIface ∧ u' = c₀.mode)) := by
      cases pan with
      | none =>
        simp only at hu
        subst hu
        exact ⟨.nilIface, .returning, by simp [panV, Rep], rfl, .inr ⟨by simp [recoverD, hmode], rfl, hmode.symm⟩⟩
      | some av =>
        obtain ⟨v, rfl, hv⟩ := hu
        exact ⟨v, .panicking [{ v, recovered := true }], hv, rfl, .inl (by simp [recoverD, hmode])⟩
    obtain ⟨v, u', hrv, hset, hrec⟩ := hrec
    refine wpS_seq (wpS_region ?_)
    rw [List.range_eq_range', List.size_toArray, List.length_cons, List.range'_succ]
    unfold wpOpsS
    simp only [List.getElem?_toArray, List.getElem?_cons_zero, Region.wanted, if_true]
    have hex : (execOp ({ tmps := vs.toArray ++ Array.replicate (fn.ntmps - vs.toArray.size) undef, defers := [] } : Act).eval ⟨some d, .call ⟨.builtin .recover, #[], ts⟩, ty, pos, af, none⟩).run P w = .ok .recover w := by
      simp [execOp, resolve, invoke, builtin]
    simp only [hex]
    have hstart := repLoc_args hv c1
    have hL1 : RepLoc m γ (({ tmps := vs.toArray ++ Array.replicate (fn.ntmps - vs.toArray.size) undef, defers := [] } : Act).put (some d) v) (updL (argLoc 0 args) (some d) (panV pan) []) := by
      have := repLoc_put (rc := ⟨some d, [], (panV pan), [], .pure⟩) (d := some d) hstart (Le.refl m γ []) rfl (fun e he => by cases he; simp; omega) hrv
      exact this
    have key : ∀ cs', (∃ uu, cs' = { c₀ with mode := uu } :: cs ∧ settle uu = .returning) → wpOpsS P (⟨some d, .call ⟨.builtin .recover, #[], ts⟩, ty, pos, af, none⟩ :: l).toArray (Exit.thenS (b.wpS P (bodyPostS P fn c₀ cs fun e u' w' => (∃ v, e = .returned v) ∧ settle u' = .returning ∧ ∃ m' γ', Trans m γ w m' γ' w' ∧ Inv m' γ' ob3 w' ∧ Le m γ [] m' γ')) (bodyPostS P fn c₀ cs fun e u' w' => (∃ v, e = .returned v) ∧ settle u' = .returning ∧ ∃ m' γ', Trans m γ w m' γ' w' ∧ Inv m' γ' ob3 w' ∧ Le m γ [] m' γ'))
        (List.range' (0 + 1) l.length) (({ tmps := vs.toArray ++ Array.replicate (fn.ntmps - vs.toArray.size) undef, defers := [] } : Act).put (some d) v) cs' w := by
      rintro cs' ⟨uu, rfl, huu⟩
      refine wpOpsS_of (fun a w hq => ?_) _ _ _ ?_
      · obtain ⟨_, ⟨v, hv⟩, _⟩ := hq
        cases hv
      rw [wpOps_eq_wpList l (0 + 1) (fun j => by simp [Nat.add_comm])]
      have happ := ev_sound_app g3 g4 (noYl_spec hny) [] (Q := fun e a w' => Exit.thenS (b.wpS P (bodyPostS P fn c₀ cs fun e u' w' => (∃ v, e = .returned v) ∧ settle u' = .returning ∧ ∃ m' γ', Trans m γ w m' γ' w' ∧ Inv m' γ' ob3 w' ∧ Le m γ [] m' γ')) (bodyPostS P fn c₀ cs fun e u' w' => (∃ v, e = .returned v) ∧ settle u' = .returning ∧ ∃ m' γ', Trans m γ w m' γ' w' ∧ Inv m' γ' ob3 w' ∧ Le m γ [] m' γ') e a ({ c₀ with mode := uu } :: cs) w')
        hi hL1 (by rw [size_put]; simp; omega) (fun m1 γ1 w1 a1 ht1 hi1 hl1 hs1 hd1 hk1 => ?_)
      · simpa using happ
      refine wpS_of_wp (c := b) ?_
      have hd1' : a1.defers = [] := hd1.trans (by rw [defers_put])
      refine wp_mono (wpIn_wide.1 (q3 none ob2.length (fun x L ob => (x = .normal ∨ x = .ret) ∧ ob = ob3) (.inl rfl) (fun L' ob' _ hO' => ⟨hx2, hO'.uniq q2⟩) m1 γ1 w1 a1 hi1 hl1 hs1 trivial)) ?_
      rintro e a2 w2 ⟨m2, γ2, Lx, obx, ax, ⟨hax, rfl⟩, p2, p3, p4, p5, p6, p7, p8⟩
      have hle := hk1.all (le_of_kept hi1 p3 p8)
      have hfin : a2.defers = [] ∧ ∃ u', { c₀ with mode := uu } :: cs = { c₀ with mode := u' } :: cs ∧ ∃ v, (results fn a2.tmps).run P w2 = .ok v w2 ∧ (∃ v', Ending.returned v = .returned v') ∧ settle u' = .returning ∧ ∃ m' γ', Trans m γ w m' γ' w2 ∧ Inv m' γ' obx w2 ∧ Le m γ [] m' γ' := by
        obtain ⟨rv, r1, _⟩ := run_results (P := P) (fn := fn) (avs := []) p4 p5 (by rw [c3]; exact .nil)
        exact ⟨(p7.out hbrf).trans hd1', uu, rfl, rv, r1, ⟨rv, rfl⟩, huu, m2, γ2, ht1.trans p3, p4, hle⟩
      rcases hax with rfl | rfl
      · cases e <;> first | exact p2.elim | exact hfin
      · cases e <;> first | exact p2.elim | exact hfin
    rcases hrec with hr | ⟨hr, rfl, rfl⟩
    · rw [hr]
      exact key _ ⟨u', rfl, hset⟩
    · rw [hr]
      exact key _ ⟨c₀.mode, rfl, hset⟩
theorem lastDefer_spec : ∀ {ops l : List Oper} {x : Operand}, lastDefer ops = some (l, x) → ∃ ts ty pos after, ops = l ++ [⟨none, .defer ⟨.value x, #[], ts⟩, ty, pos, after, none⟩]
  | [], l, x, h => by simp [lastDefer] at h
  | o :: ops, l, x, h => by
    unfold lastDefer at h
    split at h
    · cases h
    · rename_i x' ts ty pos after heq
      simp only [List.cons.injEq] at heq
      obtain ⟨rfl, rfl⟩ := heq
      simp only [Option.some.injEq, Prod.mk.injEq] at h
      obtain ⟨rfl, rfl⟩ := h
      exact ⟨ts, ty, pos, after, rfl⟩
    · rename_i o' l' hne heq
      simp only [List.cons.injEq] at heq
      obtain ⟨rfl, rfl⟩ := heq
      split at h
      · rename_i l2 x2 hl
        simp only [Option.some.injEq, Prod.mk.injEq] at h
        obtain ⟨rfl, rfl⟩ := h
        obtain ⟨ts, ty, pos, after, e⟩ := lastDefer_spec hl
        exact ⟨ts, ty, pos, after, by rw [e]; rfl⟩
      · cases h
theorem splitD_spec {c a b : Code} {all l : List Oper} {x : Operand} (h : splitD c = some (a, all, l, x, b)) : ∃ id ts ty pos after, c = .seq a (.seq (.region id all.toArray false) b) ∧ all = l ++ [⟨none, .defer ⟨.value x, #[], ts⟩, ty, pos, after, none⟩] := by
  unfold splitD at h
  split at h
  · rename_i a' id ops b'
    split at h
    · rename_i l' x' hl
      simp only [Option.some.injEq, Prod.mk.injEq] at h
      obtain ⟨rfl, rfl, rfl, rfl, rfl⟩ := h
      obtain ⟨ts, ty, pos, after, e⟩ := lastDefer_spec hl
      exact ⟨id, ts, ty, pos, after, by simp, e⟩
    · cases h
  · cases h

/-! ### Functions -/
theorem run_defer {x : Operand} {ts : Array TypeId} {ty : TypeId} {pos : String} {after : Array Edge} {a : Act} {g : FuncId} {us cs : List Value} (hx : a.eval x = .func (.func g) us.toArray cs.toArray) (w : World) :
    (execOp a.eval ⟨none, .defer ⟨.value x, #[], ts⟩, ty, pos, after, none⟩).run P w = .ok (.defer { target := .fn (.func g) cs.toArray, args := us.toArray }) w := by
  simp [execOp, resolve, hx, Deferred.ofValue]
theorem run_invoke {g : FuncId} {fn : Func} (hf : P.funcs[g]? = some fn) (hname : (fn.name == "runtime.NumGoroutine") = false) (hb : fn.body.isNone = false) (us cs : List Value) (w : World) :
    (invoke (.fn (.func g) cs.toArray) us.toArray).run P w = .ok (.enter g (us ++ cs).toArray) w := by
  have h1 : ¬ fn.name = "runtime.NumGoroutine" := by simpa using hname
  have h2 : ¬ fn.body = none := by intro e; simp [e] at hb
  simp [invoke, callFunc, hf, h1, h2]
theorem runDef_body {lf : Nat} {g : FuncId} {args : List AV} {pan : Option AV} {O O' : Tri Ob} {N N' : Nat} {tm tm' : TM} (h : runDef P pu lf callf g args pan O N tm = .ok O' N' tm') : ∃ fn, P.funcs[g]? = some fn ∧ (fn.name == "runtime.NumGoroutine") = false ∧ fn.body.isNone = false := by
  unfold runDef at h
  split at h
  rotate_left; · cases h
  rename_i fn hf
  split at h
  rotate_left; · cases h
  rename_i c hb
  split at h
  rotate_left; · cases h
  rename_i d all l b hsp
  cases hc : Nat.ble args.length fn.ntmps && Nat.blt d fn.ntmps && fn.results.toList.isEmpty && !(fn.name == "runtime.NumGoroutine") with
  | false => rw [hc] at h; cases h
  | true =>
    simp only [Bool.and_eq_true, Bool.not_eq_true'] at hc
    exact ⟨fn, hf, hc.2, by simp [hb]⟩
theorem runD_ok (hcf : CallOk P callf) (hm : P.follows .mixedOrders = true) (lf : Nat) {f : FuncId} {fn : Func} (hf : P.funcs[f]? = some fn) (hname : (fn.name == "runtime.NumGoroutine") = false) {c a b : Code} {all l : List Oper} {x : Operand} (hb : fn.body = some c) (hsp : splitD c = some (a, all, l, x, b)) (harf : a.rf = false) (hbrf : b.rf = false)
    {args : List AV} (hn : args.length ≤ fn.ntmps) {O : Tri Ob} {N : Nat} {tm : TM} {res : CR} (h : runD P pu lf callf fn.ntmps N fn.results.toList all l x b (runCode P fn.ntmps callf pu lf a (argT 0 args .e) O N (tm.at N)) = res) :
    (∀ r O1 N1 t1, res = .ret r O1 N1 t1 → Ext tm t1 ∧ (allT t1.ok = true → ∀ ob, RelO O N ob → ∃ ob1, RelO O1 N1 ob1 ∧ ARet P f args ob [] r ob1 ∧ ∀ i, tb t1.lo i = false → O1.get i = O.get i)) ∧ (∀ av O1 N1 tm, res = .pan av O1 N1 tm → False) := by
  obtain ⟨id, ts, ty, pos, after, rfl, hall⟩ := splitD_spec hsp
  cases hra : runCode P fn.ntmps callf pu lf a (argT 0 args .e) O N (tm.at N) with
  | fail => rw [hra] at h; subst h; exact ⟨fun _ _ _ _ e => (by cases e), fun _ _ _ _ e => (by cases e)⟩
  | ok xa M1 O1 N1 t1 =>
    rw [hra] at h
    cases xa with
    | normal =>
      simp only [runD] at h
      obtain ⟨ea, ka⟩ := runCode_ok hcf hm lf a hra
      split at h
      · rename_i recs M2 O2 N2 t2 hro
        have hro' : runOps P fn.ntmps callf pu all l M1 O1 N1 t1 = .ok recs M2 O2 N2 t2 := hro
        have el := (runOps_ext (pu := pu) (n := fn.ntmps) hcf all l).1 hro'
        cases hny : noYl recs with
        | false => rw [hny] at h; subst h; exact ⟨fun _ _ _ _ e => (by cases e), fun _ _ _ _ e => (by cases e)⟩
        | true =>
        rw [hny] at h
        simp only [Bool.not_true, cond_false] at h
        split at h
        · rename_i g fs cs hx0
          split at h
          · rename_i x2 M3 O3 N3 t3 hrb
            obtain ⟨eb, kb⟩ := runCode_ok hcf hm lf b hrb
            split at h
            · rename_i pan hend
              unfold defEnd at h
              split at h
              · rename_i O4 N4 t4 hd
                obtain ⟨ed, kd⟩ := def_ok hcf hm lf hd
                subst h
                refine ⟨fun r Or Nr tr e => ?_, fun av Or Nr tr e => retE_pan e⟩
                have eok := retE_ext e
                have e4 : Ext tm t4 := ea.trans (el.trans (eb.trans ed))
                refine ⟨⟨e4.choose, by rw [eok]; exact e4.choose_spec⟩, fun hok0 ob hO => ?_⟩
                have hok : allT t4.ok = true := by rw [← eok]; exact hok0
                have hNlen := hO.1
                subst hNlen
                have ha := ka ((el.trans (eb.trans ed)).ok hok) ⟨argLoc 0 args, ob, relM_argT args, hO⟩
                obtain ⟨⟨L1, ob1, a1, a2⟩, a3⟩ := ha.2 (argLoc 0 args) ob (relM_argT args) hO
                have hl := runOps_ok (pu := pu) (n := fn.ntmps) hcf all l a1 a2 t1
                rw [hro'] at hl
                obtain ⟨L2, ob2, l1, l2, l3, l4, l5⟩ := hl ((eb.trans ed).ok hok)
                have hx := hx0
                rw [l1.tev] at hx
                have hbr := kb (ed.ok hok) ⟨L2, ob2, l1, l2⟩
                obtain ⟨⟨L3, ob3, b1, b2⟩, b3⟩ := hbr.2 L2 ob2 l1 l2
                obtain ⟨ob4, d1, d2, d3⟩ := kd hok ob3 b2
                obtain ⟨fg, hfg, hng, hbg⟩ := runDef_body hd
                have hA : ∀ avs, resE P M3 O4 fn.results.toList = some avs → ∃ ob1, RelO O4 N4 ob1 ∧ ARet P f args ob [] (resOf avs) ob1 := by
                  intro avs hres
                  refine ⟨ob4, d1, ⟨⟨fn, hf, hname, by simp [hb]⟩, fun m γ w vs hi hv => calls_of_wp_defers hf hb ?_⟩⟩
                  have hlen := repVals_length hv
                  refine wp_seq (wp_mono (wpIn_wide.1 (a3 none ob.length (fun x L' ob' => x = .normal ∧ RelM M1 L' ∧ ob' = ob1) (.inl rfl) (fun L' ob' h1 h2 => ⟨rfl, h1, h2.uniq a2⟩) m γ w _ hi (repLoc_args hv hn) (by simp; omega) trivial)) ?_)
                  rintro e a1' w1 ⟨m1, γ1, Lx, obx, ax, ⟨rfl, hMx, rfl⟩, p2, p3, p4, p5, p6, p7, p8⟩
                  have hle1 := le_of_kept hi p3 p8
                  cases e <;> first | exact p2.elim | skip
                  show Code.wp _ _ _ _ _
                  -- the operations ahead of 'defer', at the slots as they are
                  have hlx := runOps_ok (pu := pu) (n := fn.ntmps) hcf all l hMx a2 t1
                  rw [hro'] at hlx
                  obtain ⟨L2', ob2', y1, y2, y3, y4, y5⟩ := hlx ((eb.trans ed).ok hok)
                  have e2 := y2.uniq l2
                  subst e2
                  refine wp_seq (wp_region_lit ?_)
                  have hgo := ev_sound_app y3 y4 (noYl_spec hny) [⟨none, .defer ⟨.value x, #[], ts⟩, ty, pos, after, none⟩] (Q := Exit.then (b.wp P (bodyPostD P fn fun e w' => ∃ m' γ' r ob', (r = .ret (resOf avs) ∧ ob' = ob4) ∧ EndRep m' γ' e r ∧ Trans m γ w m' γ' w' ∧ Inv m' γ' ob' w' ∧ (∀ o g, ([] : List Nat).contains o = false → γ o = some g → γ' o = some g))) (bodyPostD P fn fun e w' => ∃ m' γ' r ob', (r = .ret (resOf avs) ∧ ob' = ob4) ∧ EndRep m' γ' e r ∧ Trans m γ w m' γ' w' ∧ Inv m' γ' ob' w' ∧ (∀ o g, ([] : List Nat).contains o = false → γ o = some g → γ' o = some g)))
                    p4 p5 p6 (fun m2 γ2 w2 a2' ht2 hi2 hl2 hs2 hd2 hk2 => ?_)
                  · rw [hall]
                    rw [hall] at hgo
                    exact hgo
                  -- 'defer'
                  have hx' : aeval L2' x = some (.fn (.func g) fs cs) := by rw [← y1.tev, l1.tev]; exact hx
                  have hrx := rep_eval hl2 hx'
                  simp only [Rep] at hrx
                  obtain ⟨us, vcs, ex, r1, r2⟩ := hrx
                  unfold wpList
                  rw [if_pos (by simp [Region.wanted])]
                  refine .inl ?_
                  unfold Oper.wp
                  rw [run_defer ex, Oper.upon_defer]
                  have hdf : ({ a2' with defers := { target := .fn (.func g) vcs.toArray, args := us.toArray } :: a2'.defers } : Act).put none undef = { a2' with defers := [{ target := .fn (.func g) vcs.toArray, args := us.toArray }] } := by
                    rw [hd2, p7.out harf]; rfl
                  simp only at hdf ⊢
                  rw [hdf]
                  show Code.wp _ _ _ _ _
                  refine wp_mono (wpIn_wide.1 (b3 none ob2'.length (fun x L' ob' => x = x2 ∧ RelM M3 L' ∧ ob' = ob3) (.inl rfl) (fun L' ob' h1 h2 => ⟨rfl, h1, h2.uniq b2⟩) m2 γ2 w2 { a2' with defers := [{ target := .fn (.func g) vcs.toArray, args := us.toArray }] } hi2 (fun t av e => hl2 t av (by rw [← y1 t, l1 t]; exact e)) hs2 trivial)) ?_
                  rintro e a3' w3 ⟨m3, γ3, L3', ob3', ax, ⟨rfl, hM3, rfl⟩, q2, q3, q4, q5, q6, q7, q8⟩
                  have hle3 := le_of_kept hi2 q3 q8
                  have hargs : RepVals m3 γ3 (fs ++ cs) (us ++ vcs) := repVals_append (repVals_le hle3 _ _ (freeVals_nil _) r1) (repVals_le hle3 _ _ (freeVals_nil _) r2)
                  have fin : ∀ u, (match pan with
                      | none => u = FrameMode.returning
                      | some av => ∃ v, u = .panicking [{ v, recovered := false }] ∧ Rep m3 γ3 av v) → Leaves P fn a3'.tmps (fun e w' => ∃ m' γ' r ob', (r = .ret (resOf avs) ∧ ob' = ob4) ∧ EndRep m' γ' e r ∧ Trans m γ w m' γ' w' ∧ Inv m' γ' ob' w' ∧ (∀ o g, ([] : List Nat).contains o = false → γ o = some g → γ' o = some g)) a3'.defers u w3 := by
                    intro u hu
                    rw [q7.out hbrf]
                    refine leaves_cons (by cases pan with | none => simp only at hu; rw [hu]; simp | some av => obtain ⟨v, hv, _⟩ := hu; rw [hv]; simp) (run_invoke hfg hng hbg us vcs w3) ?_
                    refine (d2 m3 γ3 w3 (us ++ vcs) u q4 hargs hu).mono ?_
                    rintro e4 u4 w4 ⟨⟨v4, rfl⟩, hset, m4, γ4, ht4, hi4, hle4⟩
                    simp only [hset]
                    have hl4 := repLoc_all q5 hle4
                    obtain ⟨rv, rr1, rr2⟩ := run_results (fn := fn) hi4 hl4 (resE_ok hM3 d1 hres)
                    exact ⟨rv, rr1, m4, γ4, _, ob4, ⟨rfl, rfl⟩, rr2, ((p3.trans ht2).trans q3).trans ht4, hi4, fun o g _ hg => hle4.gam o g (hle3.gam o g (hk2.gam o g (hle1.gam o g hg rfl) rfl) rfl) rfl⟩
                  cases ax <;> simp only [isEnd, Option.some.injEq] at hend <;> first
                    | (subst hend; cases e <;> first | exact q2.elim | exact fin _ rfl | (obtain ⟨v, rfl, hv⟩ := q2; exact fin _ ⟨v, rfl, hv⟩))
                    | cases hend
                exact retE_ok (O0 := O) (tm0 := tm.at ob.length) hO hA (ha.1.trans (l5.trans (hbr.1.trans d3))) e
              · subst h; exact ⟨fun _ _ _ _ e => (by cases e), fun _ _ _ _ e => (by cases e)⟩
            · subst h; exact ⟨fun _ _ _ _ e => (by cases e), fun _ _ _ _ e => (by cases e)⟩
          · subst h; exact ⟨fun _ _ _ _ e => (by cases e), fun _ _ _ _ e => (by cases e)⟩
        · subst h; exact ⟨fun _ _ _ _ e => (by cases e), fun _ _ _ _ e => (by cases e)⟩
      · subst h; exact ⟨fun _ _ _ _ e => (by cases e), fun _ _ _ _ e => (by cases e)⟩
    | _ => simp only [runD] at h; subst h; exact ⟨fun _ _ _ _ e => (by cases e), fun _ _ _ _ e => (by cases e)⟩
/-! ### Rounds -/
def setLoc : List Tmp → List AV → Loc → Loc
  | t :: ts, av :: avs, L => setLoc ts avs ((t, av) :: L)
  | _, _, L => L
def lpLoc : List Nat → List AV → Loc
  | t :: ts, av :: avs => (t, av) :: lpLoc ts avs
  | _, _ => []
theorem relM_cons {M : Tri AV} {L : Loc} (h : RelM M L) (t : Nat) (av : AV) : RelM (M.set av t) ((t, av) :: L) := fun s => by rw [tri_get_set, lk_cons, h]
theorem relM_setPs : ∀ (ts : List Tmp) (avs : List AV) {M : Tri AV} {L : Loc}, RelM M L → RelM (setPs ts avs M) (setLoc ts avs L)
  | t :: ts, av :: avs, _, _, h => relM_setPs ts avs (relM_cons h t av)
  | [], _, _, _, h => h
  | _ :: _, [], _, _, h => h
theorem relM_lpT : ∀ (ts : List Nat) (cs : List AV), RelM (lpT ts cs) (lpLoc ts cs)
  | t :: ts, av :: avs => relM_cons (relM_lpT ts avs) t av
  | [], _ => RelM.nil
  | _ :: _, [] => RelM.nil
theorem lk_lpLoc : ∀ (ts : List Nat) (cs : List AV) {t : Nat} {av : AV}, lk (lpLoc ts cs) t = some av → ∃ i : Nat, ts[i]? = some t ∧ cs[i]? = some av
  | s :: ts, c :: cs, t, av, h => by
    simp only [lpLoc] at h
    rw [lk_cons] at h
    split at h
    · rename_i e; cases h; exact ⟨0, by rw [e]; rfl, rfl⟩
    · obtain ⟨i, h1, h2⟩ := lk_lpLoc ts cs h
      exact ⟨i + 1, h1, h2⟩
  | [], _, _, _, h => by simp [lpLoc, lk] at h
  | _ :: _, [], _, _, h => by simp [lpLoc, lk] at h
theorem repLoc_set {m : Mem} {γ : Gam} {n : Nat} : ∀ (ts : List Tmp) (avs : List AV) (vs : List Value) (tmps : Array Value) {L : Loc}, RepLoc m γ { tmps := tmps, defers := [] } L → tmps.size = n → ts.all (fun t => Nat.blt t n) = true → RepVals m γ avs vs →
    RepLoc m γ { tmps := (ts.zip vs).foldl (fun tmps p => tmps.setIfInBounds p.1 p.2) tmps, defers := [] } (setLoc ts avs L) ∧ ((ts.zip vs).foldl (fun tmps p => tmps.setIfInBounds p.1 p.2) tmps).size = n
  | [], avs, vs, tmps, L, h, hs, _, _ => by cases avs <;> exact ⟨h, hs⟩
  | t :: ts, [], vs, tmps, L, h, hs, _, hv => by
    simp only [RepVals] at hv
    subst hv
    exact ⟨h, hs⟩
  | t :: ts, av :: avs, vs, tmps, L, h, hs, hn, hv => by
    simp only [RepVals] at hv
    obtain ⟨x, r, rfl, hx, hr⟩ := hv
    simp only [List.all_cons, Bool.and_eq_true] at hn
    have ht : t < n := Nat.le_of_ble_eq_true hn.1
    have hp := repLoc_put (rc := ⟨some t, [], av, [], .pure⟩) (d := some t) h (Le.refl m γ []) rfl (fun e he => by cases he; simpa [hs] using ht) hx
    exact repLoc_set ts avs r (tmps.setIfInBounds t x) hp (by simpa using hs) hn.2 hr
theorem YCode.free_jump {k : YCode} (h : k.free = true) : k.jump = none := by
  unfold YCode.free at h
  cases hj : k.jump with
  | none => rfl
  | some c => rw [hj] at h; cases h
theorem YCode.free_state {k : YCode} (h : k.free = true) (b : Bool) : k.state b = cond b .busy .ready := by
  unfold YCode.state
  rw [YCode.free_jump h]
theorem YCode.left_jump {k : YCode} (h : k.free = true) (j : Option Code) : (k.left j).jump = j := by
  cases j with
  | none => exact YCode.free_jump h
  | some c => rfl
theorem YCode.left_state {k : YCode} (h : k.free = true) (j : Option Code) : (k.left j).state false = if j.isNone then .ready else .done := by
  cases j with
  | none => exact (YCode.free_state h false).trans rfl
  | some c => rfl
theorem YCode.left_rest (k : YCode) (j : Option Code) : (k.left j).n = k.n ∧ (k.left j).ps = k.ps ∧ (k.left j).assign = k.assign ∧ (k.left j).body = k.body := by cases j <;> exact ⟨rfl, rfl, rfl, rfl⟩
theorem roundPost_of {P : Program} {l : Nat} {R : Ending → World → Prop} {x : AX} {j : Option Code} (hj : jumpA x = some j) {m : Mem} {γ : Gam} {e : Exit} (h : ExRep m γ e x) {a : Act} {w : World} (k : ∃ v w', (Instr.endRound l j).run P w = .ok v w' ∧ R (.returned v) w') : roundPost P l R e a w := by
  cases x <;> simp only [jumpA, Option.some.injEq] at hj <;> first | exact absurd hj (by simp) | skip
  all_goals subst hj
  all_goals cases e <;> first | exact h.elim | skip
  · exact k
  · exact k
  · simp only [ExRep] at h
    subst h
    exact k
theorem y_ok (hcf : CallOk P callf) (hm : P.follows .mixedOrders = true) (lf : Nat) {f : FuncId} (hf : yBase ≤ f) (args : List AV) (O : Tri Ob) (N : Nat) (tm : TM) :
    (∀ r O1 N1 t1, runY P pu lf callf (f - yBase) args O N tm = .ret r O1 N1 t1 → Ext tm t1 ∧ (allT t1.ok = true → ∀ ob, RelO O N ob → ∃ ob1, RelO O1 N1 ob1 ∧ FRet P f args ob r ob1 ∧ ∀ i, tb t1.lo i = false → O1.get i = O.get i)) ∧
    (∀ av O1 N1 t1, runY P pu lf callf (f - yBase) args O N tm = .pan av O1 N1 t1 → f < yBase ∧ Ext tm t1 ∧ (allT t1.ok = true → ∀ ob, RelO O N ob → ∃ ob1, RelO O1 N1 ob1 ∧ APan P f args ob av ob1 ∧ ∀ i, tb t1.lo i = false → O1.get i = O.get i)) := by
  generalize ho : f - yBase = o
  have hfo : f = yBase + o := by rw [← ho]; exact (Nat.add_sub_of_le hf).symm
  have hnone : (∀ r O1 N1 t1, CR.fail = .ret r O1 N1 t1 → Ext tm t1 ∧ (allT t1.ok = true → ∀ ob, RelO O N ob → ∃ ob1, RelO O1 N1 ob1 ∧ FRet P f args ob r ob1 ∧ ∀ i, tb t1.lo i = false → O1.get i = O.get i)) ∧
    (∀ av O1 N1 t1, CR.fail = .pan av O1 N1 t1 → f < yBase ∧ Ext tm t1 ∧ (allT t1.ok = true → ∀ ob, RelO O N ob → ∃ ob1, RelO O1 N1 ob1 ∧ APan P f args ob av ob1 ∧ ∀ i, tb t1.lo i = false → O1.get i = O.get i)) := ⟨fun _ _ _ _ e => (by cases e), fun _ _ _ _ e => (by cases e)⟩
  unfold runY
  split
  rotate_left; · exact hnone
  rename_i k ts cs hO0
  cases hc : Nat.beq args.length k.ps.size && (k.ps.toList.all (fun t => Nat.blt t k.n) && (k.assign.inR && k.body.inR)) with
  | false => exact hnone
  | true =>
  simp only [Bool.and_eq_true] at hc
  obtain ⟨hc1, hc2, hc3, hc4⟩ := hc
  have hc1 := Nat.eq_of_beq_eq_true hc1
  simp only [cond_true]
  cases hra : runCode P k.n callf pu lf k.assign (setPs k.ps.toList args (lpT ts cs)) O N (tm.at N) with
  | fail => exact hnone
  | ok xa M1 O1 N1 t1 =>
  cases xa <;> first | exact hnone | skip
  simp only [rndA, rndB]
  split
  rotate_left; · exact hnone
  rename_i k1 ts1 cs1 hO1
  cases hf1 : k1.free with
  | false => exact hnone
  | true =>
  simp only [cond_true]
  cases hrb : runCode P k.n callf pu lf k.body M1 (O1.set (.lp true k1 ts1 cs1) o) N1 (t1.low (bit o)) with
  | fail => exact hnone
  | ok xb M2 O2 N2 t2 =>
  simp only [rndE]
  split
  rotate_left; · exact hnone
  rename_i j hj
  split
  rotate_left; · exact hnone
  rename_i k2 ts2 cs2 hO2
  cases hf2 : k2.free with
  | false => exact hnone
  | true =>
  simp only [cond_true]
  obtain ⟨ea, ka⟩ := runCode_ok hcf hm lf k.assign hra
  obtain ⟨eb, kb⟩ := runCode_ok hcf hm lf k.body hrb
  have e1 : Ext tm t1 := ea
  have e2 : Ext t1 t2 := eb
  refine ⟨fun r Or Nr tr e => ?_, fun av Or Nr tr e => (by cases e)⟩
  cases e
  refine ⟨e1.trans e2, fun hok0 ob hO => ?_⟩
  have hok : allT t2.ok = true := hok0
  obtain rfl := hO.1
  have hM0 := relM_setPs k.ps.toList args (relM_lpT ts cs)
  have ra := ka (e2.ok hok) ⟨_, ob, hM0, hO⟩
  obtain ⟨⟨L1, ob1, a1, a2⟩, a3⟩ := ra.2 _ ob hM0 hO
  have hk1 : ob1[o]? = some (.lp false k1 ts1 cs1) := by rw [← a2.2]; exact hO1
  have hlt1 := (List.getElem?_eq_some_iff.1 hk1).1
  have hset : ∀ (O' : Tri Ob) (N' : Nat) (ob' : List Ob) (X : Ob), RelO O' N' ob' → o < ob'.length → RelO (O'.set X o) N' (ob'.set o X) := by
    intro O' N' ob' X h1 h2
    refine ⟨by rw [List.length_set]; exact h1.1, fun i => ?_⟩
    rw [tri_get_set, List.getElem?_set, h1.2]
    by_cases e : o = i
    · subst e; simp [h2]
    · simp [e]
  have hOb := hset O1 N1 ob1 (.lp true k1 ts1 cs1) a2 hlt1
  have rb := kb hok ⟨L1, _, a1, hOb⟩
  obtain ⟨⟨L2, ob2, b1, b2⟩, b3⟩ := rb.2 L1 _ a1 hOb
  have hk2 : ob2[o]? = some (.lp true k2 ts2 cs2) := by rw [← b2.2]; exact hO2
  have hlt2 := (List.getElem?_eq_some_iff.1 hk2).1
  have hk0 : ob[o]? = some (.lp false k ts cs) := by rw [← hO.2]; exact hO0
  refine ⟨ob2.set o (.lp false (k2.left j) ts2 cs2), hset O2 _ ob2 _ b2 hlt2, ⟨fun h => absurd h (Nat.not_lt.2 hf), fun o' ho' => ?_⟩, fun i hi => ?_⟩
  rotate_left
  · have i1 := un_bit (un_low hi).2
    have i2 := (un_low hi).1
    have i3 := (un_low (rb.1.1 i i2)).1
    rw [tri_get_set, if_neg i1, rb.1.2 i i2, tri_get_set, if_neg i1]
    exact ra.1.2 i i3
  have : o' = o := Nat.add_left_cancel (ho'.symm.trans hfo)
  subst this
  intro m γ w vs l C hi hg hv
  obtain ⟨b, rr, xs, g1, g2, ⟨s1, s2, s3, s4, s5, s6⟩, g4, g5, _⟩ := hi.obj _ _ hk0
  rw [hg] at g1
  cases g1
  have hvl := repVals_length hv
  refine ⟨rr.fn, _, rr.assign, rr.body, run_yield g2 (by rw [s3]; simp; omega), roundIn_of_wpIn trivial ?_⟩
  have hbase : RepLoc m γ { tmps := rr.tmps, defers := [] } (lpLoc ts cs) := by
    intro t av h
    obtain ⟨i, h1, h2⟩ := lk_lpLoc ts cs h
    obtain ⟨x, hx, hr⟩ := repVals_get g4 i av h2
    obtain ⟨h3, h4⟩ := g5 i t x h1 hx
    exact ⟨by rw [s6]; exact h3, by rw [h4]; exact hr⟩
  obtain ⟨hl0, hs0⟩ := repLoc_set k.ps.toList args vs rr.tmps hbase s6 hc2 hv
  have hfold : (rr.params.zip vs.toArray).foldl (fun tmps (t, a) => tmps.setIfInBounds t a) rr.tmps = (k.ps.toList.zip vs).foldl (fun tmps p => tmps.setIfInBounds p.1 p.2) rr.tmps := by
    rw [s3, ← Array.foldl_toList, Array.toList_zip]
  rw [hfold, s4, s5]
  show k.assign.wpIn (wideR (some l)) 0 P _ _ _
  refine wpIn_mono (a3 (some l) ob.length (fun x L ob' => x = .normal ∧ RelM M1 L ∧ ob' = ob1) (.inr hc3) (fun L' ob' h1 h2 => ⟨rfl, h1, h2.uniq a2⟩) m γ w { tmps := _, defers := [] } hi hl0 hs0 trivial) ?_
  rintro e a1' w1 ⟨m1, γ1, L1', ob1', ax, ⟨rfl, hM1, rfl⟩, p2, p3, p4, p5, p6, p7, p8⟩
  have hlo : o' < ob.length := (List.getElem?_eq_some_iff.1 hk0).1
  have hg1 : γ1 o' = some (some (l, 0)) := p8 _ _ ⟨hlo, rfl⟩ hg
  obtain ⟨l1, r1, xs1, q1, q2, ⟨q3, q4, q5⟩, q6, q7, q8⟩ := p4.obj _ _ hk1
  rw [hg1] at q1
  cases q1
  cases e <;> first | exact p2.elim | skip
  obtain ⟨hi2, ht2⟩ := inv_lp p4 hk1 (by simp) hg1 q2 { r1 with state := .busy } (X := .lp true k1 ts1 cs1)
    ⟨l, { r1 with state := .busy }, xs1, hg1, World.putObj_heap_same (Array.getElem?_eq_some_iff.1 q2).1, ⟨(YCode.free_state hf1 true).symm, q4, q5⟩, q6, q7, q8⟩
  refine ⟨_, run_beginRound q2 (q3.trans (YCode.free_state hf1 false)), ?_⟩
  refine wpIn_mono (b3 (some l) ob.length (fun x L ob' => x = xb ∧ ob' = ob2) (.inr hc4) (fun L' ob' h1 h2 => ⟨rfl, h2.uniq b2⟩) m1 γ1 _ a1' hi2 (fun t av e => p5 t av (by rw [← hM1 t, a1 t]; exact e)) p6 trivial) ?_
  rintro e a2' w2 ⟨m2, γ2, L2', ob2', ax, ⟨rfl, rfl⟩, u2, u3, u4, u5, u6, u7, u8⟩
  have hg2 : γ2 o' = some (some (l, 0)) := u8 _ _ ⟨hlo, rfl⟩ hg1
  obtain ⟨l2, r2, xs2, v1, v2, ⟨v3, v4, v5⟩, v6, v7, v8⟩ := u4.obj _ _ hk2
  rw [hg2] at v1
  cases v1
  obtain ⟨lr1, lr2, lr3, lr4⟩ := YCode.left_rest k2 j
  obtain ⟨hi3, ht3⟩ := inv_lp u4 hk2 (by simp) hg2 v2 { r2 with state := if j.isNone then .ready else .done, pending := j } (X := .lp false (k2.left j) ts2 cs2)
    ⟨l, { r2 with state := if j.isNone then .ready else .done, pending := j }, xs2, hg2, World.putObj_heap_same (Array.getElem?_eq_some_iff.1 v2).1, ⟨(YCode.left_state hf2 j).symm, (YCode.left_jump hf2 j).symm, by rw [lr1, lr2, lr3, lr4]; exact v5⟩, v6, by rw [lr1]; exact v7, v8⟩
  refine roundPost_of hj u2 ⟨_, _, run_endRound j v2, _, m2, γ2, rfl, by simp [Rep], ((p3.trans ht2).trans u3).trans ht3, hi3, ((p3.trans ht2).trans u3).mem, fun oo g hgo _ => ?_⟩
  have hol := hi.len oo (by rw [hgo]; simp)
  exact u8 oo g ⟨hol, rfl⟩ (p8 oo g ⟨hol, rfl⟩ hgo)
theorem fret_of {f : FuncId} (hf : Nat.blt f yBase = true) {args : List AV} {ob : List Ob} {r : AV} {ob1 : List Ob} (h : ARet P f args ob [] r ob1) : FRet P f args ob r ob1 := FRet.of (Nat.le_of_ble_eq_true hf) h
theorem runFn_succ (lf k : Nat) (f : FuncId) (args : List AV) (O : Tri Ob) (N : Nat) (tm : TM) : runFn P pu lf (k + 1) f args O N tm = (cond (!Nat.blt f yBase) (runY P pu lf (runFn P pu lf k) (f - yBase) args O N tm) <| match P.funcs[f]? with
      | some fn => match fn.body with
        | some c => cond (Nat.ble args.length fn.ntmps && !(fn.name == "runtime.NumGoroutine")) (runBody P pu lf (runFn P pu lf k) fn c args O N tm) .fail
        | none => .fail
      | none => .fail) := rfl
theorem call_none (P : Program) (f : FuncId) (args : List AV) (O : Tri Ob) (N : Nat) (tm : TM) :
    (∀ r O1 N1 t1, CR.fail = .ret r O1 N1 t1 → Ext tm t1 ∧ (allT t1.ok = true → ∀ ob, RelO O N ob → ∃ ob1, RelO O1 N1 ob1 ∧ FRet P f args ob r ob1 ∧ ∀ i, tb t1.lo i = false → O1.get i = O.get i)) ∧
    (∀ av O1 N1 t1, CR.fail = .pan av O1 N1 t1 → f < yBase ∧ Ext tm t1 ∧ (allT t1.ok = true → ∀ ob, RelO O N ob → ∃ ob1, RelO O1 N1 ob1 ∧ APan P f args ob av ob1 ∧ ∀ i, tb t1.lo i = false → O1.get i = O.get i)) :=
  ⟨fun _ _ _ _ e => (by cases e), fun _ _ _ _ e => (by cases e)⟩
/-- A function that is known by its body's run. -/
theorem fn_ok {callf : CallF} (hcf : CallOk P callf) (hm : P.follows .mixedOrders = true) (pu : FuncId → Bool) (lf : Nat) {f : FuncId} (hY : f < yBase) {fn : Func} (hf : P.funcs[f]? = some fn) {c : Code} (hb : fn.body = some c) (hname : (fn.name == "runtime.NumGoroutine") = false) {args : List AV} (hn : args.length ≤ fn.ntmps) (O : Tri Ob) (N : Nat) (tm : TM) :
    (∀ r O1 N1 t1, runBody P pu lf callf fn c args O N tm = .ret r O1 N1 t1 → Ext tm t1 ∧ (allT t1.ok = true → ∀ ob, RelO O N ob → ∃ ob1, RelO O1 N1 ob1 ∧ FRet P f args ob r ob1 ∧ ∀ i, tb t1.lo i = false → O1.get i = O.get i)) ∧
    (∀ av O1 N1 t1, runBody P pu lf callf fn c args O N tm = .pan av O1 N1 t1 → f < yBase ∧ Ext tm t1 ∧ (allT t1.ok = true → ∀ ob, RelO O N ob → ∃ ob1, RelO O1 N1 ob1 ∧ APan P f args ob av ob1 ∧ ∀ i, tb t1.lo i = false → O1.get i = O.get i)) := by
  unfold runBody
  split
  · rename_i hsp
    cases hrun : runCode P fn.ntmps callf pu lf c (argT 0 args .e) O N (tm.at N) with
    | fail => exact call_none P f args O N tm
    | ok x M O1 N1 t1 =>
      obtain ⟨e1, k1⟩ := runCode_ok hcf hm lf c hrun
      have hA : (x = .normal ∨ x = .ret) → ∀ r Or Nr tr, retE P N fn.results.toList M O1 N1 t1 = .ret r Or Nr tr → Ext tm tr ∧ (allT tr.ok = true → ∀ ob, RelO O N ob → ∃ ob1, RelO Or Nr ob1 ∧ FRet P f args ob r ob1 ∧ ∀ i, tb tr.lo i = false → Or.get i = O.get i) := by
        intro hx r Or Nr tr e
        have eok := retE_ext e
        refine ⟨⟨e1.choose, by rw [eok]; exact e1.choose_spec⟩, fun hok0 ob hO => ?_⟩
        have hok : allT t1.ok = true := by rw [← eok]; exact hok0
        have hNlen := hO.1
        subst hNlen
        have hr := k1 hok ⟨argLoc 0 args, ob, relM_argT args, hO⟩
        obtain ⟨⟨L1, ob1, a1, a2⟩, a3⟩ := hr.2 (argLoc 0 args) ob (relM_argT args) hO
        obtain ⟨ob3, z1, z2, z3⟩ := retE_ok (P := P) (f := f) (args := args) (O0 := O) (tm0 := tm.at ob.length) hO (fun avs hres => ⟨ob1, a2, acalls_of_awp hf hname hb hn (a3 none ob.length _ (.inl rfl) fun L' ob' hM' hO' => by
          have hv := resE_ok hM' hO' hres
          have eq := hO'.uniq a2
          rcases hx with rfl | rfl
          · exact ⟨avs, hv, rfl, eq⟩
          · exact ⟨avs, hv, rfl, eq⟩)⟩) hr.1 e
        exact ⟨ob3, z1, FRet.of hY z2, z3⟩
      cases x with
      | normal => exact ⟨hA (.inl rfl), fun av Or Nr tr e => (retE_pan e).elim⟩
      | ret => exact ⟨hA (.inr rfl), fun av Or Nr tr e => (retE_pan e).elim⟩
      | panic av0 =>
        refine ⟨fun r Or Nr tr e => (by cases e), fun av Or Nr tr e => ?_⟩
        cases e
        refine ⟨hY, e1, fun hok ob hO => ?_⟩
        have hNlen := hO.1
        subst hNlen
        have hr := k1 hok ⟨argLoc 0 args, ob, relM_argT args, hO⟩
        obtain ⟨⟨L1, ob1, a1, a2⟩, a3⟩ := hr.2 (argLoc 0 args) ob (relM_argT args) hO
        exact ⟨ob1, a2, acalls_of_awp hf hname hb hn (a3 none ob.length _ (.inl rfl) fun L' ob' hM' hO' => ⟨rfl, hO'.uniq a2⟩), hr.1.2⟩
      | exit j => exact call_none P f args O N tm
      | goto j => exact call_none P f args O N tm
  · rename_i a all l x b hsp
    cases hrf : a.rf || b.rf with
    | true => exact call_none P f args O N tm
    | false =>
      simp only [Bool.or_eq_false_iff] at hrf
      obtain ⟨g1, g2⟩ := runD_ok (pu := pu) hcf hm lf hf hname hb hsp hrf.1 hrf.2 hn (O := O) (N := N) (tm := tm) rfl
      refine ⟨fun r O1 N1 t1 e => ?_, fun av O1 N1 tm e => (g2 av O1 N1 tm e).elim⟩
      obtain ⟨q1, q2⟩ := g1 r O1 N1 t1 e
      refine ⟨q1, fun hok ob hO => ?_⟩
      obtain ⟨ob1, z1, z2, z3⟩ := q2 hok ob hO
      exact ⟨ob1, z1, FRet.of hY z2, z3⟩
/-- A function, its body run with these others. -/
noncomputable def runOne (P : Program) (pu : FuncId → Bool) (lf : Nat) (callf : CallF) : CallF := fun f args O N tm => cond (!Nat.blt f yBase) (runY P pu lf callf (f - yBase) args O N tm) <| match P.funcs[f]? with
  | some fn => match fn.body with
    | some c => cond (Nat.ble args.length fn.ntmps && !(fn.name == "runtime.NumGoroutine")) (runBody P pu lf callf fn c args O N tm) .fail
    | none => .fail
  | none => .fail
theorem runOne_ok {callf : CallF} (hcf : CallOk P callf) (hm : P.follows .mixedOrders = true) (pu : FuncId → Bool) (lf : Nat) : CallOk P (runOne P pu lf callf) := fun f args O N tm => by
  unfold runOne
  cases hY : Nat.blt f yBase with
  | false =>
    have hf : yBase ≤ f := Nat.not_lt.1 fun h => by
      have : Nat.blt f yBase = true := Nat.ble_eq_true_of_le h
      rw [hY] at this; cases this
    simp only [Bool.not_false, cond_true]
    exact y_ok hcf hm lf hf args O N tm
  | true =>
  simp only [Bool.not_true, cond_false]
  have hfy : f < yBase := Nat.le_of_ble_eq_true hY
  split
  rotate_left; · exact call_none P f args O N tm
  rename_i fn hf
  split
  rotate_left; · exact call_none P f args O N tm
  rename_i c hb
  cases hc : Nat.ble args.length fn.ntmps && !(fn.name == "runtime.NumGoroutine") with
  | false => exact call_none P f args O N tm
  | true =>
    simp only [Bool.and_eq_true, Bool.not_eq_true'] at hc
    simp only [cond_true]
    exact fn_ok hcf hm pu lf hfy hf hb hc.2 (Nat.le_of_ble_eq_true hc.1) O N tm
theorem runFn_ok (hm : P.follows .mixedOrders = true) (pu : FuncId → Bool) (lf : Nat) : ∀ k, CallOk P (runFn P pu lf k)
  | 0 => fun f args O N tm => call_none P f args O N tm
  | k + 1 => fun f args O N tm => runOne_ok (runFn_ok hm pu lf k) hm pu lf f args O N tm
/-- A function without arguments of which it is known what it returns, handed no object. -/
def known (f0 : FuncId) (r : AV) (callf : CallF) : CallF := fun f args O N tm => cond (Nat.beq f f0) (cond (args.isEmpty && Nat.beq N 0) (.ret r .e 0 (tm.at 0)) .fail) (callf f args O N tm)
theorem known_ok {f0 : FuncId} {r : AV} {callf : CallF} (h : ARet P f0 [] [] [] r []) (hcf : CallOk P callf) (hY : Nat.blt f0 yBase = true := by rfl) : CallOk P (known f0 r callf) := fun f args O N tm => by
  unfold known
  cases hf : Nat.beq f f0 with
  | false => exact hcf f args O N tm
  | true =>
    have := Nat.eq_of_beq_eq_true hf
    subst this
    simp only [cond_true]
    cases hc : args.isEmpty && Nat.beq N 0 with
    | false => exact call_none P f args O N tm
    | true =>
      simp only [Bool.and_eq_true, List.isEmpty_iff] at hc
      obtain ⟨rfl, hN⟩ := hc
      have := Nat.eq_of_beq_eq_true hN
      subst this
      simp only [cond_true]
      refine ⟨fun r' O1 N1 t1 e => ?_, fun av O1 N1 t1 e => by cases e⟩
      cases e
      refine ⟨Ext.refl _, fun _ ob hO => ?_⟩
      have : ob = [] := List.eq_nil_of_length_eq_zero hO.1
      subst this
      exact ⟨[], RelO.nil, fret_of hY h, fun i _ => by rw [hO.2]; simp [tri_get_e]⟩
/-- A run from no object. -/
theorem ret_of_run {callf : CallF} (hcf : CallOk P callf) {f : FuncId} {args : List AV} {r : AV} {tm t1 : TM} (h : callf f args .e 0 tm = .ret r .e 0 t1) (hok : allT t1.ok = true) (hY : Nat.blt f yBase = true := by rfl) : ARet P f args [] [] r [] := by
  obtain ⟨ob1, h1, h2, _⟩ := ((hcf f args .e 0 tm).1 _ _ _ _ h).2 hok [] RelO.nil
  have : ob1 = [] := List.eq_nil_of_length_eq_zero h1.1
  rw [this] at h2
  exact h2.1 (Nat.le_of_ble_eq_true hY)
end
end Go.Am
