/-
  An abstract machine, part W: what the program runs is so: regions, code, functions, deferred functions.
-/
import Derived.Test.YtifnhnkogcgnaaaDoorAmU
import Derived.Recover
namespace Go.Am

/-- what a step of the program says -/
def SOk (P : Program) (n : Nat) (ops : Array Oper) (o : Oper) (L : Loc) (ob : List Ob) (O : Tri Ob) (tm : TM) : SR → Prop
  | .fail => True
  | .val rc M' O' N' tm' => allT tm'.ok = true → ∃ ob', RelO O' N' ob' ∧ RelM M' (upd L rc) ∧ Sub rc.us L ∧ rc.dst = o.dst ∧ (∀ d, o.dst = some d → d < n) ∧ StepK P ops o rc ob ob' ∧ rc.ks = [] ∧ Kept O O' tm tm'
  | .pan av O' N' tm' => allT tm'.ok = true → ∃ ob', RelO O' N' ob' ∧ PStep P ops o L ob av ob' ∧ Kept O O' tm tm'
/-- .. a region's operations -/
def ROk (P : Program) (n : Nat) (ops : Array Oper) (l : List Oper) (L : Loc) (ob : List Ob) (O : Tri Ob) (tm : TM) : RR → Prop
  | .fail => True
  | .ok recs M2 O2 N2 tm2 => allT tm2.ok = true → ∃ L2 ob2, RelM M2 L2 ∧ RelO O2 N2 ob2 ∧ Ev P n ops l recs L ob L2 ob2 ∧ (∀ rc ∈ recs, rc.ks = []) ∧ Kept O O2 tm tm2
  | .pan av M2 O2 N2 tm2 => allT tm2.ok = true → ∃ l1 o l2 recs L1 ob1 ob2, l = l1 ++ o :: l2 ∧ Ev P n ops l1 recs L ob L1 ob1 ∧ (∀ rc ∈ recs, rc.ks = []) ∧ RelM M2 L1 ∧ RelO O2 N2 ob2 ∧ PStep P ops o L1 ob1 av ob2 ∧ Kept O O2 tm tm2

section
variable {P : Program} {n : Nat} {callf : CallF} {pu : FuncId → Bool}
theorem execR_ok {ops : Array Oper} {M : Tri AV} {L gu : Loc} {O : Tri Ob} {N : Nat} {ob : List Ob} (hM : RelM M L) (hO : RelO O N ob) {o : Oper} (hg : Gd ops L o.guard gu) (hn : ∀ d, o.dst = some d → d < n) (tm : TM) :
    SOk P n ops o L ob O tm (execR M o.dst gu O N tm upT appO (exec P (tev M) o O.get N)) := by
  rw [hM.tev, hO.fun, ← hO.1]
  cases hx : exec P (aeval L) o (fun i => ob[i]?) ob.length with
  | none => trivial
  | some out =>
    obtain ⟨dst, op, ty, pos, after, guard⟩ := o
    obtain ⟨k1, k2, k3⟩ := steps_inv (exec_sound hg hn hx)
    obtain ⟨r, kd, d, xs⟩ := out
    have hO' : RelO O ob.length ob := hO.1 ▸ hO
    have hra := hO'.app d
    refine fun _ => ⟨_, hra, ?_, k1, rfl, hn, k3, rfl, Nat.min_le_left _ _, fun i hi => ?_⟩
    · exact hM.up dst r
    · rw [hra.2, hO.2]
      exact stepK_tm k3 i (Nat.lt_of_lt_of_le hi (Nat.min_le_right _ _))
theorem chkR_ok {ops : Array Oper} {M : Tri AV} {L gu : Loc} {O : Tri Ob} {N : Nat} {ob : List Ob} (hM : RelM M L) (hO : RelO O N ob) {o : Oper} (hg : Gd ops L o.guard gu) (hn : ∀ d, o.dst = some d → d < n) (tm : TM) :
    SOk P n ops o L ob O tm (chkR M o.dst gu O N tm upT appO (exec P (tev M) o O.get N) (chkE P (tev M) o.op O.get N)) := by
  cases hc : chkE P (tev M) o.op O.get N with
  | none => exact execR_ok hM hO hg hn tm
  | some q =>
    obtain ⟨p, out⟩ := q
    have h1 := execR_ok (P := P) (n := n) hM hO hg hn tm
    cases p with
    | false =>
      obtain ⟨r, kd, d, xs⟩ := out
      intro hok
      simp [TM.low, TM.asks, allT] at hok
    | true =>
      rw [chkE_exec hc] at h1
      obtain ⟨r, kd, d, xs⟩ := out
      intro hok
      simp only [TM.low, TM.asks, allT, Bool.true_and] at hok
      exact h1 hok
theorem hintR_ok {ops : Array Oper} {M : Tri AV} {L gu : Loc} {O : Tri Ob} {N : Nat} {ob : List Ob} (hM : RelM M L) (hO : RelO O N ob) {o : Oper} (hg : Gd ops L o.guard gu) (hn : ∀ d, o.dst = some d → d < n) (tm : TM) (g : Gi) (r : List Gi) {y : SR} (hy : SOk P n ops o L ob O tm y) :
    SOk P n ops o L ob O tm (hintR M o.dst gu O N tm r upT appO y (hintE P (tev M) o.op O.get g)) := by
  cases hc : hintE P (tev M) o.op O.get g with
  | none => exact hy
  | some q =>
    obtain ⟨p, out⟩ := q
    have h1 := execR_ok (P := P) (n := n) hM hO hg hn tm
    cases p with
    | false =>
      obtain ⟨r, kd, d, xs⟩ := out
      intro hok
      simp [TM.low, TM.told, allT] at hok
    | true =>
      rw [hintE_exec hc] at h1
      obtain ⟨r, kd, d, xs⟩ := out
      intro hok
      simp only [TM.low, TM.told, allT, Bool.true_and] at hok
      exact h1 hok
theorem steps_ok {ops : Array Oper} {M : Tri AV} {L gu : Loc} {O : Tri Ob} {N : Nat} {ob : List Ob} (hM : RelM M L) (hO : RelO O N ob) {o : Oper} {out : Out} (hn : ∀ d, o.dst = some d → d < n) (tm : TM) (hS : Steps P n ops L gu o ob out) :
    SOk P n ops o L ob O tm (execR M o.dst gu O N tm upT appO (some out)) := by
  obtain ⟨dst, op, ty, pos, after, guard⟩ := o
  obtain ⟨k1, k2, k3⟩ := steps_inv hS
  obtain ⟨r, kd, d, xs⟩ := out
  obtain rfl := hO.1
  have hra := hO.app d
  refine fun _ => ⟨_, hra, ?_, k1, rfl, hn, k3, rfl, Nat.min_le_left _ _, fun i hi => ?_⟩
  · exact hM.up dst r
  · rw [hra.2, hO.2]
    exact stepK_tm k3 i (Nat.lt_of_lt_of_le hi (Nat.min_le_right _ _))
theorem askR_ok {ops : Array Oper} {M : Tri AV} {L gu : Loc} {O : Tri Ob} {N : Nat} {ob : List Ob} (hM : RelM M L) (hO : RelO O N ob) {o : Oper} (hg : Gd ops L o.guard gu) (hn : ∀ d, o.dst = some d → d < n) (tm : TM) (g : Gi) (r : List Gi) {y : SR} (hy : SOk P n ops o L ob O tm y) :
    SOk P n ops o L ob O tm (hintR M o.dst gu O N tm r upT appO y (askE P (tev M) o.type o.op O.get g)) := by
  cases hc : askE P (tev M) o.type o.op O.get g with
  | none => exact hy
  | some q =>
    obtain ⟨p, out⟩ := q
    cases p with
    | false =>
      obtain ⟨r, kd, d, xs⟩ := out
      intro hok
      simp [TM.low, TM.told, allT] at hok
    | true =>
      rw [hM.tev, hO.fun] at hc
      have hS : Steps P n ops L gu o ob out := by
        obtain ⟨dst, op, ty, pos, after, guard⟩ := o
        exact askE_steps hg hn hc
      have h1 := steps_ok (P := P) (n := n) hM hO hn tm hS
      obtain ⟨r, kd, d, xs⟩ := out
      intro hok
      simp only [TM.low, TM.told, allT, Bool.true_and] at hok
      exact h1 hok
theorem callE_ok (hcf : CallOk P callf) {ops : Array Oper} {M : Tri AV} {L gu : Loc} {O : Tri Ob} {N : Nat} {ob : List Ob} (hM : RelM M L) (hO : RelO O N ob) {x : Operand} {args : List Operand} {ts : Array TypeId} {dst : Option Nat} {ty : TypeId} {pos : String} {after : Array Edge} {guard : Option (Nat × Bool)}
    (hg : Gd ops L guard gu) (hn : ∀ d, dst = some d → d < n) (tm : TM) :
    SOk P n ops ⟨dst, .call ⟨.value x, args.toArray, ts⟩, ty, pos, after, guard⟩ L ob O tm (callE callf pu dst gu x args M O N tm) := by
  unfold callE
  rw [hM.tev]
  split
  · rename_i f fs cs avs xs hx ha
    have hA := evAE_spec ha
    cases hp : pu f with
    | true =>
      simp only [cond_true]
      cases hv : pureVals avs && pureVals fs && pureVals cs with
      | false => trivial
      | true =>
        simp only [Bool.and_eq_true] at hv
        simp only [cond_true]
        cases hcall : callf f (fs ++ (avs ++ cs)) .e 0 tm with
        | fail => trivial
        | pan av O1 N1 t1 => trivial
        | ret r O1 N1 t1 =>
          simp only [callPE]
          cases hk : Nat.beq N1 0 && r.pure with
          | false => trivial
          | true =>
            simp only [Bool.and_eq_true] at hk
            have hN := Nat.eq_of_beq_eq_true hk.1
            subst hN
            refine fun hok => ?_
            obtain ⟨ob1, h1, h2, _⟩ := ((hcf f _ .e 0 tm).1 _ _ _ _ hcall).2 hok [] RelO.nil
            have : ob1 = [] := List.eq_nil_of_length_eq_zero h1.1
            subst this
            obtain ⟨k1, k2, k3, k4⟩ := evk_inv (P := P) (n := n) (ops := ops) (L := L) (o := ⟨dst, .call ⟨.value x, args.toArray, ts⟩, ty, pos, after, guard⟩) (ob := ob) (ob' := ob) (rc := ⟨dst, gu ++ uses ((x, .fn (.func f) fs cs) :: xs), r, [], .pure⟩)
              (fun kf kk => ev_callP hx hA h2 hv.1.1 hv.1.2 hv.2 hk.2 hg hn kk)
            exact ⟨ob, hO, hM.up dst r, k1, k2, k3, k4, rfl, Kept.refl _ _⟩
    | false =>
      simp only [cond_false]
      cases hcall : callf f (fs ++ (avs ++ cs)) O N tm with
      | fail => trivial
      | ret r O1 N1 t1 =>
        refine fun hok => ?_
        obtain ⟨ob1, h1, h2, h3⟩ := ((hcf f _ O N tm).1 _ _ _ _ hcall).2 hok ob hO
        have hpre : ∀ i, i < t1.lo → ob1[i]? = ob[i]? := fun i hi => by rw [← h1.2, ← hO.2]; exact h3 i hi
        obtain ⟨k1, k2, k3, k4⟩ := evk_inv (P := P) (n := n) (ops := ops) (L := L) (o := ⟨dst, .call ⟨.value x, args.toArray, ts⟩, ty, pos, after, guard⟩) (ob := ob) (ob' := ob1) (rc := ⟨dst, gu ++ uses ((x, .fn (.func f) fs cs) :: xs), r, [], .from t1.lo⟩)
          (fun kf kk => ev_from t1.lo hpre (fun kf kk => ev_callW hx hA h2 hg hn kk) kk)
        exact ⟨ob1, h1, hM.up dst r, k1, k2, k3, k4, rfl, Nat.min_le_left _ _, fun i hi => h3 i (Nat.lt_of_lt_of_le hi (Nat.min_le_right _ _))⟩
      | pan av O1 N1 t1 =>
        refine fun hok => ?_
        obtain ⟨ob1, h1, h2, h3⟩ := ((hcf f _ O N tm).2 _ _ _ _ hcall).2 hok ob hO
        exact ⟨ob1, h1, pan_call hg hx hA h2, Nat.min_le_left _ _, fun i hi => h3 i (Nat.lt_of_lt_of_le hi (Nat.min_le_right _ _))⟩
  · trivial
theorem stepOp_ok (hcf : CallOk P callf) {all : List Oper} {M : Tri AV} {L : Loc} {O : Tri Ob} {N : Nat} {ob : List Ob} (hM : RelM M L) (hO : RelO O N ob) (o : Oper) (tm : TM) :
    SOk P n all.toArray o L ob O tm (stepOp P n callf pu all o M O N tm) := by
  unfold stepOp
  cases hd : dstB n o.dst with
  | false => trivial
  | true =>
    have hn := dstB_spec hd
    simp only [cond_true]
    split
    · rename_i gu hgd
      have hg := gdE_true hM hgd
      unfold doOp
      obtain ⟨dst, op, ty, pos, after, guard⟩ := o
      split
      · rename_i c hop
        simp only at hop
        subst hop
        obtain ⟨callee, args, ts⟩ := c
        split
        · rename_i x hc
          simp only at hc
          subst hc
          have := callE_ok (pu := pu) hcf (P := P) (n := n) (ops := all.toArray) hM hO (x := x) (args := args.toList) (ts := ts) (dst := dst) (ty := ty) (pos := pos) (after := after) (guard := guard) hg hn tm
          simpa using this
        · split
          · exact execR_ok hM hO hg hn tm
          · exact askR_ok hM hO hg hn tm _ _ (chkR_ok hM hO hg hn tm)
      · split
        · exact execR_ok hM hO hg hn tm
        · exact hintR_ok hM hO hg hn tm _ _ (chkR_ok hM hO hg hn tm)
      · split
        · exact execR_ok hM hO hg hn tm
        · exact askR_ok hM hO hg hn tm _ _ (chkR_ok hM hO hg hn tm)
      · split
        · exact execR_ok hM hO hg hn tm
        · exact hintR_ok hM hO hg hn tm _ _ (execR_ok hM hO hg hn tm)
      · rename_i x hop
        simp only at hop
        subst hop
        unfold panE
        rw [hM.tev]
        split
        · rename_i t y hx
          exact fun _ => ⟨ob, hO, pan_op hg hx, Kept.refl _ _⟩
        · trivial
      · split
        · exact execR_ok hM hO hg hn tm
        · rename_i g r hgd'
          unfold cmpR
          split
          · rename_i d b xs hx
            have hb := execR_ok (P := P) (n := n) hM hO hg hn tm
            rw [hx] at hb
            intro hok
            simp only [TM.told, allT, Bool.and_eq_true] at hok
            have hbd : b = d := by
              have := hok.1
              cases b <;> cases d <;> simp_all
            subst hbd
            obtain ⟨ob', q1, q2, q3, q4, q5, q6, q7, q8⟩ := hb hok.2
            exact ⟨ob', q1, q2, q3, q4, q5, q6, q7, Nat.le_trans (Nat.le_refl _) (Nat.le_refl _), fun i _ => rfl⟩
          · rename_i z k m xs hx
            have hb := execR_ok (P := P) (n := n) hM hO hg hn tm
            rw [hx] at hb
            intro hok
            simp only [TM.told, allT, Bool.and_eq_true] at hok
            have hbd := dec_true.1 hok.1
            subst hbd
            obtain ⟨ob', q1, q2, q3, q4, q5, q6, q7, q8⟩ := hb hok.2
            exact ⟨ob', q1, q2, q3, q4, q5, q6, q7, Nat.le_trans (Nat.le_refl _) (Nat.le_refl _), fun i _ => rfl⟩
          · exact execR_ok hM hO hg hn tm
      · split
        · exact execR_ok hM hO hg hn tm
        · exact askR_ok hM hO hg hn tm _ _ (execR_ok hM hO hg hn tm)
    · rename_i gu hgd
      obtain ⟨k1, k2⟩ := skip_inv (P := P) (n := n) (ob := ob) (gdE_false hM hgd) hn
      exact fun _ => ⟨ob, hO, hM.up _ _, k1, rfl, hn, k2, rfl, Kept.refl _ _⟩
    · trivial
theorem runOps_nil (all : List Oper) (M : Tri AV) (O : Tri Ob) (N : Nat) (tm : TM) : runOps P n callf pu all [] M O N tm = .ok [] M O N tm := rfl
theorem runOps_cons (all : List Oper) (o : Oper) (l : List Oper) (M : Tri AV) (O : Tri Ob) (N : Nat) (tm : TM) : runOps P n callf pu all (o :: l) M O N tm = glueR M (runOps P n callf pu all l) (stepOp P n callf pu all o M O N tm) := rfl
theorem take_ext {t u : TM} (h : Ext t u) : Ext t (t.take u) := h
theorem stepOp_ext (hcf : CallOk P callf) {all : List Oper} {o : Oper} {M : Tri AV} {O : Tri Ob} {N : Nat} {tm : TM} :
    (∀ {rc M' O' N' tm'}, stepOp P n callf pu all o M O N tm = .val rc M' O' N' tm' → Ext tm tm') ∧ (∀ {av O' N' tm'}, stepOp P n callf pu all o M O N tm = .pan av O' N' tm' → Ext tm tm') := by
  have hex : ∀ (gu : Loc) (x : Option Out), (∀ {rc M' O' N' tm'}, execR M o.dst gu O N tm upT appO x = .val rc M' O' N' tm' → Ext tm tm') ∧ (∀ {av O' N' tm'}, execR M o.dst gu O N tm upT appO x = .pan av O' N' tm' → Ext tm tm') := by
    intro gu x
    cases x with
    | none => exact ⟨fun h => (by cases h), fun h => (by cases h)⟩
    | some out => obtain ⟨r, kd, d, xs⟩ := out; exact ⟨fun h => (by cases h; exact Ext.refl _), fun h => (by cases h)⟩
  have hck : ∀ (gu : Loc) (x : Option Out) (y : Option (Bool × Out)), (∀ {rc M' O' N' tm'}, chkR M o.dst gu O N tm upT appO x y = .val rc M' O' N' tm' → Ext tm tm') ∧ (∀ {av O' N' tm'}, chkR M o.dst gu O N tm upT appO x y = .pan av O' N' tm' → Ext tm tm') := by
    intro gu x y
    cases y with
    | none => exact hex gu x
    | some q => obtain ⟨p, r, kd, d, xs⟩ := q; exact ⟨fun h => (by cases h; exact ⟨[p], rfl⟩), fun h => (by cases h)⟩
  have hhi : ∀ (gu : Loc) (r : List Gi) (y : SR) (q : Option (Bool × Out)), ((∀ {rc M' O' N' tm'}, y = .val rc M' O' N' tm' → Ext tm tm') ∧ (∀ {av O' N' tm'}, y = .pan av O' N' tm' → Ext tm tm')) → (∀ {rc M' O' N' tm'}, hintR M o.dst gu O N tm r upT appO y q = .val rc M' O' N' tm' → Ext tm tm') ∧ (∀ {av O' N' tm'}, hintR M o.dst gu O N tm r upT appO y q = .pan av O' N' tm' → Ext tm tm') := by
    intro gu r y q hy
    cases q with
    | none => exact hy
    | some q => obtain ⟨p, r, kd, d, xs⟩ := q; exact ⟨fun h => (by cases h; exact ⟨[p], rfl⟩), fun h => (by cases h)⟩
  have key : ∀ gu, (∀ {rc M' O' N' tm'}, doOp P callf pu o gu M O N tm = .val rc M' O' N' tm' → Ext tm tm') ∧ (∀ {av O' N' tm'}, doOp P callf pu o gu M O N tm = .pan av O' N' tm' → Ext tm tm') := by
    intro gu
    unfold doOp
    split
    · split
      · unfold callE
        split
        · rename_i f fs cs avs xs _ _
          cases pu f with
          | true =>
            simp only [cond_true]
            cases pureVals avs && pureVals fs && pureVals cs with
            | false => exact ⟨fun h => (by cases h), fun h => (by cases h)⟩
            | true =>
              simp only [cond_true]
              cases hcall : callf f (fs ++ (avs ++ cs)) .e 0 tm with
              | fail => exact ⟨fun h => (by cases h), fun h => (by cases h)⟩
              | pan av O1 N1 t1 => exact ⟨fun h => (by cases h), fun h => (by cases h)⟩
              | ret r O1 N1 t1 =>
                simp only [callPE]
                cases Nat.beq N1 0 && r.pure with
                | false => exact ⟨fun h => (by cases h), fun h => (by cases h)⟩
                | true => exact ⟨fun h => (by cases h; exact ((hcf f _ .e 0 tm).1 _ _ _ _ hcall).1), fun h => (by cases h)⟩
          | false =>
            simp only [cond_false]
            cases hcall : callf f (fs ++ (avs ++ cs)) O N tm with
            | fail => exact ⟨fun h => (by cases h), fun h => (by cases h)⟩
            | ret r O1 N1 t1 => exact ⟨fun h => (by cases h; exact ((hcf f _ O N tm).1 _ _ _ _ hcall).1), fun h => (by cases h)⟩
            | pan av O1 N1 t1 => exact ⟨fun h => (by cases h), fun h => (by cases h; exact ((hcf f _ O N tm).2 _ _ _ _ hcall).1)⟩
        · exact ⟨fun h => (by cases h), fun h => (by cases h)⟩
      · split
        · exact hex gu _
        · exact hhi gu _ _ _ (hck gu _ _)
    · split
      · exact hex gu _
      · exact hhi gu _ _ _ (hck gu _ _)
    · split
      · exact hex gu _
      · exact hhi gu _ _ _ (hck gu _ _)
    · split
      · exact hex gu _
      · exact hhi gu _ _ _ (hex gu _)
    · unfold panE
      split
      · exact ⟨fun h => (by cases h), fun h => (by cases h; exact Ext.refl _)⟩
      · exact ⟨fun h => (by cases h), fun h => (by cases h)⟩
    · split
      · exact hex gu _
      · unfold cmpR
        split
        · exact ⟨fun h => (by cases h; exact ⟨[_], rfl⟩), fun h => (by cases h)⟩
        · exact ⟨fun h => (by cases h; exact ⟨[_], rfl⟩), fun h => (by cases h)⟩
        · exact hex gu _
    · split
      · exact hex gu _
      · exact hhi gu _ _ _ (hex gu _)
  unfold stepOp
  cases dstB n o.dst with
  | false => exact ⟨fun h => (by cases h), fun h => (by cases h)⟩
  | true =>
    simp only [cond_true]
    split
    · exact key _
    · exact ⟨fun h => (by cases h; exact Ext.refl _), fun h => (by cases h)⟩
    · exact ⟨fun h => (by cases h), fun h => (by cases h)⟩
theorem runOps_ext (hcf : CallOk P callf) (all : List Oper) : ∀ (l : List Oper) {M : Tri AV} {O : Tri Ob} {N : Nat} {tm : TM},
    (∀ {recs M' O' N' tm'}, runOps P n callf pu all l M O N tm = .ok recs M' O' N' tm' → Ext tm tm') ∧ (∀ {av M' O' N' tm'}, runOps P n callf pu all l M O N tm = .pan av M' O' N' tm' → Ext tm tm')
  | [], M, O, N, tm => ⟨fun h => (by cases h; exact Ext.refl _), fun h => (by cases h)⟩
  | o :: l, M, O, N, tm => by
    rw [runOps_cons]
    have hs := stepOp_ext (pu := pu) (n := n) hcf (all := all) (o := o) (M := M) (O := O) (N := N) (tm := tm)
    cases hst : stepOp P n callf pu all o M O N tm with
    | fail => exact ⟨fun h => (by cases h), fun h => (by cases h)⟩
    | pan av O1 N1 t1 => exact ⟨fun h => (by cases h), fun h => (by cases h; exact hs.2 hst)⟩
    | val rc M1 O1 N1 t1 =>
      have h1 := hs.1 hst
      have ih := runOps_ext hcf all l (M := M1) (O := O1) (N := N1) (tm := t1)
      simp only [glueR]
      cases hr : runOps P n callf pu all l M1 O1 N1 t1 with
      | fail => exact ⟨fun h => (by cases h), fun h => (by cases h)⟩
      | ok recs M2 O2 N2 t2 => exact ⟨fun h => (by cases h; exact h1.trans (ih.1 hr)), fun h => (by cases h)⟩
      | pan av M2 O2 N2 t2 => exact ⟨fun h => (by cases h), fun h => (by cases h; exact h1.trans (ih.2 hr))⟩
theorem runOps_ok (hcf : CallOk P callf) (all : List Oper) : ∀ (l : List Oper) {M : Tri AV} {L : Loc} {O : Tri Ob} {N : Nat} {ob : List Ob} (_hM : RelM M L) (_hO : RelO O N ob) (tm : TM), ROk P n all.toArray l L ob O tm (runOps P n callf pu all l M O N tm)
  | [], M, L, O, N, ob, hM, hO, tm => fun _ => ⟨L, ob, hM, hO, .nil _ _, by simp, Kept.refl _ _⟩
  | o :: l, M, L, O, N, ob, hM, hO, tm => by
    rw [runOps_cons]
    have hs := stepOp_ok (pu := pu) (n := n) hcf (all := all) hM hO o tm
    cases hst : stepOp P n callf pu all o M O N tm with
    | fail => trivial
    | pan av O1 N1 t1 =>
      rw [hst] at hs
      intro hok
      obtain ⟨ob1, h1, h2, h3⟩ := hs hok
      exact ⟨[], o, l, [], L, ob, ob1, rfl, .nil _ _, by simp, hM, h1, h2, h3⟩
    | val rc M1 O1 N1 t1 =>
      rw [hst] at hs
      have hext := runOps_ext (pu := pu) (n := n) hcf all l (M := M1) (O := O1) (N := N1) (tm := t1)
      simp only [glueR]
      cases hr : runOps P n callf pu all l M1 O1 N1 t1 with
      | fail => trivial
      | ok recs M2 O2 N2 t2 =>
        intro hok
        obtain ⟨ob1, h1, h2, h3, h4, h5, h6, h7, h8⟩ := hs ((hext.1 hr).ok hok)
        have ih := runOps_ok hcf all l h2 h1 t1
        rw [hr] at ih
        obtain ⟨L2, ob2, g1, g2, g3, g4, g5⟩ := ih hok
        exact ⟨L2, ob2, g1, g2, .cons h3 h4 h5 h6 g3, fun r hrc => by
          rcases List.mem_cons.1 hrc with e | e
          · subst e; exact h7
          · exact g4 r e, h8.trans g5⟩
      | pan av M2 O2 N2 t2 =>
        intro hok
        obtain ⟨ob1, h1, h2, h3, h4, h5, h6, h7, h8⟩ := hs ((hext.2 hr).ok hok)
        have ih := runOps_ok hcf all l h2 h1 t1
        rw [hr] at ih
        obtain ⟨l1, o', l2, recs, L1, oba, obb, g0, g1, g2, g3, g4, g5, g6⟩ := ih hok
        exact ⟨o :: l1, o', l2, rc :: recs, L1, oba, obb, by rw [g0]; rfl, .cons h3 h4 h5 h6 g1, fun r hrc => by
          rcases List.mem_cons.1 hrc with e | e
          · subst e; exact h7
          · exact g2 r e, g3, g4, g5, h8.trans g6⟩

/-! ### Regions -/
theorem ev_sound_app {ops : Array Oper} {l : List Oper} {recs : List Rec} {L L2 : Loc} {ob ob2 : List Ob} (hev : Ev P n ops l recs L ob L2 ob2) (hks : ∀ rc ∈ recs, rc.ks = []) (l2 : List Oper) :
    ∀ {m : Mem} {γ : Gam} {w : World} {a : Act} {Q : Exit → Act → World → Prop}, Inv m γ ob w → RepLoc m γ a L → a.tmps.size = n →
    (∀ m' γ' w' a', Trans m γ w m' γ' w' → Inv m' γ' ob2 w' → RepLoc m' γ' a' L2 → a'.tmps.size = n → a'.defers = a.defers → Le m γ [] m' γ' → wpList P ops Q l2 a' w') → wpList P ops Q (l ++ l2) a w := by
  induction hev with
  | nil L ob => intro m γ w a Q hi hl hs hq; exact hq m γ w a (Trans.refl _ _ _) hi hl hs rfl (Le.refl _ _ _)
  | cons hus hdst hn hst h ih =>
    intro m γ w a Q hi hl hs hq
    have hk := hks _ (List.mem_cons_self ..)
    show wpList P ops Q (_ :: (_ ++ l2)) a w
    unfold wpList
    refine hst.step m γ w a _ Q hi (hl.sub hus) fun m' γ' w' x ht hle hi' hx => ?_
    have hle0 : Le m γ [] m' γ' := by rw [hk] at hle; exact hle
    exact ih (fun rc hrc => hks rc (List.mem_cons_of_mem _ hrc)) hi' (repLoc_put hl hle hdst (fun e he => by rw [hs]; exact hn e he) hx) (by rw [size_put]; exact hs)
      fun m2 γ2 w2 a2 ht2 hi2 hl2 hs2 hd2 hk2 => hq m2 γ2 w2 a2 (ht.trans ht2) hi2 hl2 hs2 (hd2.trans (defers_put _ _ _))
        ⟨fun b x h => hk2.mem b x (hle0.mem b x h), fun o g hg hc => hk2.gam o g (hle0.gam o g hg hc) hc⟩

def Runs (P : Program) (n : Nat) (c : Code) (M : Tri AV) (O : Tri Ob) (N : Nat) (tm : TM) (x : AX) (M' : Tri AV) (O' : Tri Ob) (N' : Nat) (tm' : TM) : Prop :=
  Kept O O' tm tm' ∧ ∀ L ob, RelM M L → RelO O N ob → (∃ L' ob', RelM M' L' ∧ RelO O' N' ob') ∧
    ∀ df K Q, (∀ L' ob', RelM M' L' → RelO O' N' ob' → Q x L' ob') → awp df P n K [] c Q L ob
theorem kept_all {K : Nat} {m m' : Mem} {γ γ' : Gam} (h : Le m γ [] m' γ') : ∀ o g, kept K [] o → γ o = some g → γ' o = some g := fun o g ho hg => h.gam o g hg ho.2
theorem region_ok (hcf : CallOk P callf) (hm : P.follows .mixedOrders = true) (id : Nat) (ops : Array Oper) (draw : Bool) {M : Tri AV} {O : Tri Ob} {N : Nat} {tm : TM} {x : AX} {M' : Tri AV} {O' : Tri Ob} {N' : Nat} {tm' : TM}
    (hr : regR ops.toList draw (runOps P n callf pu ops.toList ops.toList M O N tm) = .ok x M' O' N' tm') (hok0 : allT tm'.ok = true) (hex : ∃ L ob, RelM M L ∧ RelO O N ob) : Runs P n (.region id ops draw) M O N tm x M' O' N' tm' := by
  have hops : ops = ops.toList.toArray := by simp
  have base : ∀ L ob, RelM M L → RelO O N ob → Kept O O' tm tm' ∧ (∃ L' ob', RelM M' L' ∧ RelO O' N' ob') ∧ ∀ df K Q, (∀ L' ob', RelM M' L' → RelO O' N' ob' → Q x L' ob') → awp df P n K [] (.region id ops draw) Q L ob := by
    intro L ob hM hO
    have hok := runOps_ok (pu := pu) (n := n) hcf ops.toList ops.toList hM hO tm
    cases hrun : runOps P n callf pu ops.toList ops.toList M O N tm with
    | fail => rw [hrun] at hr; cases hr
    | ok recs M2 O2 N2 t2 =>
      rw [hrun] at hr hok
      have key : x = .normal ∧ M' = M2 ∧ O' = O2 ∧ N' = N2 ∧ tm' = t2 ∧ (draw = true → drawOk ops.toList recs = true) := by
        cases draw with
        | false => simp only [regR, RX.ok.injEq] at hr; obtain ⟨h1, h2, h3, h4, h5⟩ := hr; exact ⟨h1.symm, h2.symm, h3.symm, h4.symm, h5.symm, by simp⟩
        | true =>
          simp only [regR] at hr
          cases hd : drawOk ops.toList recs with
          | false => rw [hd] at hr; cases hr
          | true => rw [hd] at hr; simp only [cond_true, RX.ok.injEq] at hr; obtain ⟨h1, h2, h3, h4, h5⟩ := hr; exact ⟨h1.symm, h2.symm, h3.symm, h4.symm, h5.symm, fun _ => rfl⟩
      obtain ⟨rfl, rfl, rfl, rfl, rfl, hd⟩ := key
      obtain ⟨L2, ob2, g1, g2, g3, g4, g5⟩ := hok hok0
      refine ⟨g5, ⟨L2, ob2, g1, g2⟩, fun df K Q hq => ?_⟩
      intro m γ w a hi hl hs hdf
      cases draw with
      | false =>
        rw [hops]
        refine wp_region_lit ?_
        have := ev_sound_app g3 g4 [] (Q := Post df K [] n Q m γ w) hi hl hs (fun m' γ' w' a' ht hi' hl' hs' hd' hk' =>
          ⟨m', γ', L2, ob2, .normal, hq L2 ob2 g1 g2, trivial, ht, hi', hl', hs', hd'.trans hdf, kept_all hk'⟩)
        simpa using this
      | true =>
        rw [hops]
        exact region_any hm g3 (hd rfl) hi hl hs fun m' γ' w' a' ht hi' hl' hs' hd' hk' =>
          ⟨m', γ', L2, ob2, .normal, hq L2 ob2 g1 g2, trivial, ht, hi', hl', hs', hd'.trans hdf, fun o g ho hg => hk' o g (fun rc hrc => by rw [g4 rc hrc]; rfl) hg⟩
    | pan av M2 O2 N2 t2 =>
      rw [hrun] at hr hok
      cases draw with
      | true => cases hr
      | false =>
        simp only [regR, Bool.not_false, cond_true, RX.ok.injEq] at hr
        obtain ⟨rfl, rfl, rfl, rfl, rfl⟩ := hr
        obtain ⟨l1, o, l2, recs, L1, oba, obb, g0, g1, g2, g3, g4, g5, g6⟩ := hok hok0
        refine ⟨g6, ⟨L1, obb, g3, g4⟩, fun df K Q hq => ?_⟩
        intro m γ w a hi hl hs hdf
        rw [hops]
        refine wp_region_lit ?_
        have hgo : wpList P ops.toList.toArray (Post df K [] n Q m γ w) (l1 ++ o :: l2) a w := by
         refine ev_sound_app g1 g2 (o :: l2) (Q := Post df K [] n Q m γ w) hi hl hs (fun m' γ' w' a' ht hi' hl' hs' hd' hk' => ?_)
         obtain ⟨hw, hwp⟩ := g5 m' γ' w' a' (wpList P ops.toList.toArray (Post df K [] n Q m γ w) l2) (Post df K [] n Q m γ w) hi' hl' (fun m2 γ2 w2 v ht2 hle2 hi2 hv =>
           ⟨m2, γ2, L1, obb, .panic av, hq L1 obb g3 g4, ⟨v, rfl, hv⟩, ht.trans ht2, hi2, repLoc_all hl' hle2, hs', hd'.trans hdf, fun q g ho hg => hle2.gam q g (hk'.gam q g hg ho.2) ho.2⟩)
         unfold wpList
         rw [if_pos hw]
         exact .inl hwp
        rw [← g0] at hgo
        exact hgo
  obtain ⟨L0, ob0, hM0, hO0⟩ := hex
  exact ⟨(base L0 ob0 hM0 hO0).1, fun L ob hM hO => (base L ob hM hO).2⟩

/-! ### Code -/
def noGotoA (Q : APost) : APost
  | .goto _, _, _ => False
  | x, L, ob => Q x L ob
theorem awp_scope {df : List Deferred} {K : Nat} {kk : List Nat} {c : Code} {Q : APost} {L : Loc} {ob : List Ob} (h : awp df P n K kk c (noGotoA Q) L ob) : awp df P n K kk (.scope c) Q L ob := by
  intro m γ w a hi hl hs hd
  refine wp_scope_straight (wp_mono (h m γ w a hi hl hs hd) ?_)
  intro e a1 w1 ⟨m1, γ1, L1, ob1, ax, h1, h2, h3⟩
  cases e with
  | goto l => cases ax <;> first | exact h2.elim | exact h1.elim
  | normal => cases ax <;> first | exact h2.elim | exact ⟨m1, γ1, L1, ob1, _, h1, h2, h3⟩
  | ret => cases ax <;> first | exact h2.elim | exact ⟨m1, γ1, L1, ob1, _, h1, h2, h3⟩
  | exit => cases ax <;> first | exact h2.elim | exact ⟨m1, γ1, L1, ob1, _, h1, h2, h3⟩
  | panic => cases ax <;> first | exact h2.elim | exact ⟨m1, γ1, L1, ob1, _, h1, h2, h3⟩
  | outgrown => cases ax <;> exact h2.elim
def RunsI (P : Program) (n : Nat) (c : Code) (M : Tri AV) (O : Tri Ob) (N : Nat) (tm : TM) (x : AX) (M' : Tri AV) (O' : Tri Ob) (N' : Nat) (tm' : TM) : Prop := Ext tm tm' ∧ (allT tm'.ok = true → (∃ L ob, RelM M L ∧ RelO O N ob) → Runs P n c M O N tm x M' O' N' tm')
theorem runs_next {c : Code} {M : Tri AV} {O : Tri Ob} {N : Nat} {tm : TM} {x : AX} {M' : Tri AV} {O' : Tri Ob} {N' : Nat} {tm' : TM} (h : Runs P n c M O N tm x M' O' N' tm') (hex : ∃ L ob, RelM M L ∧ RelO O N ob) : ∃ L ob, RelM M' L ∧ RelO O' N' ob := by
  obtain ⟨L, ob, h1, h2⟩ := hex
  exact (h.2 L ob h1 h2).1
theorem runs_still {c : Code} {M : Tri AV} {O : Tri Ob} {N : Nat} {tm : TM} {x : AX} (h : ∀ df K Q L ob, Q x L ob → awp df P n K [] c Q L ob) : Runs P n c M O N tm x M O N tm :=
  ⟨Kept.refl _ _, fun L ob hM hO => ⟨⟨L, ob, hM, hO⟩, fun df K Q hq => h df K Q L ob (hq L ob hM hO)⟩⟩
theorem loopN_succ (step : Tri AV → Tri Ob → Nat → TM → RX) (k : Nat) (M : Tri AV) (O : Tri Ob) (N : Nat) (tm : TM) : loopN step (k + 1) M O N tm = seqR (loopN step k) (step M O N tm) := rfl
theorem regR_ext (hcf : CallOk P callf) (ops : List Oper) (draw : Bool) {M : Tri AV} {O : Tri Ob} {N : Nat} {tm : TM} {x : AX} {M' : Tri AV} {O' : Tri Ob} {N' : Nat} {tm' : TM} (h : regR ops draw (runOps P n callf pu ops ops M O N tm) = .ok x M' O' N' tm') : Ext tm tm' := by
  have hext := runOps_ext (pu := pu) (n := n) hcf ops ops (M := M) (O := O) (N := N) (tm := tm)
  cases hr : runOps P n callf pu ops ops M O N tm with
  | fail => rw [hr] at h; cases h
  | ok recs M2 O2 N2 t2 =>
    rw [hr] at h
    cases draw with
    | false => cases h; exact hext.1 hr
    | true =>
      simp only [regR] at h
      cases hd : drawOk ops recs with
      | false => rw [hd] at h; cases h
      | true => rw [hd] at h; cases h; exact hext.1 hr
  | pan av M2 O2 N2 t2 =>
    rw [hr] at h
    cases draw with
    | false => cases h; exact hext.2 hr
    | true => cases h
theorem loop_ok {c : Code} {step : Tri AV → Tri Ob → Nat → TM → RX} (hstep : ∀ {M O N tm x M' O' N' tm'}, step M O N tm = .ok x M' O' N' tm' → RunsI P n c M O N tm x M' O' N' tm') {x : AX} {M' : Tri AV} {O' : Tri Ob} {N' : Nat} {tm' : TM} : ∀ (lf : Nat) {M : Tri AV} {O : Tri Ob} {N : Nat} {tm : TM},
    loopN step lf M O N tm = .ok x M' O' N' tm' → RunsI P n (.loop c) M O N tm x M' O' N' tm' := by
  have ext : ∀ (lf : Nat) {M : Tri AV} {O : Tri Ob} {N : Nat} {tm : TM}, loopN step lf M O N tm = .ok x M' O' N' tm' → Ext tm tm' := by
    intro lf
    induction lf with
    | zero => intro M O N tm h; cases h
    | succ k ih =>
      intro M O N tm h
      rw [loopN_succ] at h
      cases hs : step M O N tm with
      | fail => rw [hs] at h; cases h
      | ok x1 M1 O1 N1 t1 =>
        rw [hs] at h
        have he := (hstep hs).1
        cases x1 with
        | normal => exact he.trans (ih h)
        | _ => cases h; exact he
  have first : ∀ (lf : Nat) {M : Tri AV} {O : Tri Ob} {N : Nat} {tm : TM}, loopN step lf M O N tm = .ok x M' O' N' tm' → allT tm'.ok = true → (∃ L ob, RelM M L ∧ RelO O N ob) → Kept O O' tm tm' ∧ ∃ L' ob', RelM M' L' ∧ RelO O' N' ob' := by
    intro lf
    induction lf with
    | zero => intro M O N tm h _; cases h
    | succ k ih =>
      intro M O N tm h hok hex
      rw [loopN_succ] at h
      cases hs : step M O N tm with
      | fail => rw [hs] at h; cases h
      | ok x1 M1 O1 N1 t1 =>
        rw [hs] at h
        cases x1 with
        | normal =>
          simp only [seqR] at h
          have hr := (hstep hs).2 ((ext k h).ok hok) hex
          obtain ⟨k1, k2⟩ := ih h hok (runs_next hr hex)
          exact ⟨hr.1.trans k1, k2⟩
        | _ =>
          simp only [seqR, RX.ok.injEq] at h
          obtain ⟨rfl, rfl, rfl, rfl, rfl⟩ := h
          have hr := (hstep hs).2 hok hex
          exact ⟨hr.1, runs_next hr hex⟩
  intro lf M O N tm h
  refine ⟨ext lf h, fun hok hex => ?_⟩
  refine ⟨(first lf h hok hex).1, fun L ob hM hO => ⟨(first lf h hok ⟨L, ob, hM, hO⟩).2, fun df K Q hq => ?_⟩⟩
  refine awp_loop (ι := Nat × Loc × List Ob) (fun i => i.2.1) (fun i => i.2.2) (fun i => ∃ M O N tm, RelM M i.2.1 ∧ RelO O N i.2.2 ∧ loopN step i.1 M O N tm = .ok x M' O' N' tm') (fun i => i.1) (lf, L, ob) ⟨M, O, N, tm, hM, hO, h⟩ (Sub.refl _) rfl ?_
  rintro ⟨k, Li, obi⟩ ⟨Mi, Oi, Ni, ti, hMi, hOi, hi⟩
  cases k with
  | zero => cases hi
  | succ k =>
    rw [loopN_succ] at hi
    cases hs : step Mi Oi Ni ti with
    | fail => rw [hs] at hi; cases hi
    | ok x1 M1 O1 N1 t1 =>
      rw [hs] at hi
      cases x1 with
      | normal =>
        simp only [seqR] at hi
        have hr := (hstep hs).2 ((ext k hi).ok hok) ⟨Li, obi, hMi, hOi⟩
        refine ((hr.2 Li obi hMi hOi).2 df K _) fun L' ob' hM' hO' => ?_
        exact ⟨(k, L', ob'), ⟨M1, O1, N1, t1, hM', hO', hi⟩, Nat.lt_succ_self k, Sub.refl _, rfl⟩
      | _ =>
        simp only [seqR, RX.ok.injEq] at hi
        obtain ⟨rfl, rfl, rfl, rfl, rfl⟩ := hi
        have hr := (hstep hs).2 hok ⟨Li, obi, hMi, hOi⟩
        exact ((hr.2 Li obi hMi hOi).2 df K _) fun L' ob' hM' hO' => hq L' ob' hM' hO'
theorem runCode_ok (hcf : CallOk P callf) (hm : P.follows .mixedOrders = true) (lf : Nat) : ∀ (c : Code) {M : Tri AV} {O : Tri Ob} {N : Nat} {tm : TM} {x : AX} {M' : Tri AV} {O' : Tri Ob} {N' : Nat} {tm' : TM}, runCode P n callf pu lf c M O N tm = .ok x M' O' N' tm' → RunsI P n c M O N tm x M' O' N' tm'
  | .skip, M, O, N, tm, x, M', O', N', tm', h => by cases h; exact ⟨Ext.refl _, fun _ _ => runs_still fun df K Q L ob hq => awp_skip hq⟩
  | .label l, M, O, N, tm, x, M', O', N', tm', h => by cases h; exact ⟨Ext.refl _, fun _ _ => runs_still fun df K Q L ob hq => awp_label hq⟩
  | .ret, M, O, N, tm, x, M', O', N', tm', h => by cases h; exact ⟨Ext.refl _, fun _ _ => runs_still fun df K Q L ob hq => awp_ret hq⟩
  | .exit id, M, O, N, tm, x, M', O', N', tm', h => by cases h; exact ⟨Ext.refl _, fun _ _ => runs_still fun df K Q L ob hq => awp_exit hq⟩
  | .region id ops draw, M, O, N, tm, x, M', O', N', tm', h => ⟨regR_ext hcf ops.toList draw h, region_ok hcf hm id ops draw h⟩
  | .seq a b, M, O, N, tm, x, M', O', N', tm', h => by
    replace h : seqR (runCode P n callf pu lf b) (runCode P n callf pu lf a M O N tm) = .ok x M' O' N' tm' := h
    cases ha : runCode P n callf pu lf a M O N tm with
    | fail => rw [ha] at h; cases h
    | ok x1 M1 O1 N1 t1 =>
      rw [ha] at h
      obtain ⟨e1, k1⟩ := runCode_ok hcf hm lf a ha
      cases x1 with
      | normal =>
        obtain ⟨e2, k2⟩ := runCode_ok hcf hm lf b h
        refine ⟨e1.trans e2, fun hok hex => ?_⟩
        have h1 := k1 (e2.ok hok) hex
        have h2 := k2 hok (runs_next h1 hex)
        refine ⟨h1.1.trans h2.1, fun L ob hM hO => ?_⟩
        obtain ⟨⟨L1, ob1, q1, q2⟩, q3⟩ := h1.2 L ob hM hO
        exact ⟨(h2.2 L1 ob1 q1 q2).1, fun df K Q hq => awp_seq (q3 df K _ fun L' ob' hM' hO' => (h2.2 L' ob' hM' hO').2 df K Q hq)⟩
      | _ =>
        cases h
        refine ⟨e1, fun hok hex => ?_⟩
        have h1 := k1 hok hex
        exact ⟨h1.1, fun L ob hM hO => ⟨(h1.2 L ob hM hO).1, fun df K Q hq => awp_seq ((h1.2 L ob hM hO).2 df K _ fun L' ob' hM' hO' => hq L' ob' hM' hO')⟩⟩
  | .cond c a b, M, O, N, tm, x, M', O', N', tm', h => by
    replace h : condR (runCode P n callf pu lf a) (runCode P n callf pu lf b) M O N tm (tev M c) = .ok x M' O' N' tm' := h
    have hev : ∀ L, RelM M L → aeval L c = tev M c := fun L hM => by rw [hM.tev]
    unfold condR at h
    split at h
    · rename_i hc
      obtain ⟨e1, k1⟩ := runCode_ok hcf hm lf a h
      refine ⟨e1, fun hok hex => ?_⟩
      have h1 := k1 hok hex
      exact ⟨h1.1, fun L ob hM hO => ⟨(h1.2 L ob hM hO).1, fun df K Q hq => awp_cond ((hev L hM).trans hc) (fun _ => (h1.2 L ob hM hO).2 df K Q hq) (fun e => by cases e)⟩⟩
    · rename_i hc
      obtain ⟨e1, k1⟩ := runCode_ok hcf hm lf b h
      refine ⟨e1, fun hok hex => ?_⟩
      have h1 := k1 hok hex
      exact ⟨h1.1, fun L ob hM hO => ⟨(h1.2 L ob hM hO).1, fun df K Q hq => awp_cond ((hev L hM).trans hc) (fun e => by cases e) (fun _ => (h1.2 L ob hM hO).2 df K Q hq)⟩⟩
    · cases h
  | .block id c, M, O, N, tm, x, M', O', N', tm', h => by
    replace h : blockR id (runCode P n callf pu lf c M O N tm) = .ok x M' O' N' tm' := h
    cases hc : runCode P n callf pu lf c M O N tm with
    | fail => rw [hc] at h; cases h
    | ok x1 M1 O1 N1 t1 =>
      rw [hc] at h
      obtain ⟨e1, k1⟩ := runCode_ok hcf hm lf c hc
      cases x1 with
      | exit j =>
        simp only [blockR] at h
        cases hj : Nat.beq j id with
        | true =>
          rw [hj] at h
          have := Nat.eq_of_beq_eq_true hj
          subst this
          simp only [cond_true, RX.ok.injEq] at h
          obtain ⟨rfl, rfl, rfl, rfl, rfl⟩ := h
          refine ⟨e1, fun hok hex => ?_⟩
          have h1 := k1 hok hex
          exact ⟨h1.1, fun L ob hM hO => ⟨(h1.2 L ob hM hO).1, fun df K Q hq => awp_block ((h1.2 L ob hM hO).2 df K _ fun L' ob' hM' hO' => by simpa [blockP] using hq L' ob' hM' hO')⟩⟩
        | false =>
          rw [hj] at h
          have hne := Nat.ne_of_beq_eq_false hj
          simp only [cond_false, RX.ok.injEq] at h
          obtain ⟨rfl, rfl, rfl, rfl, rfl⟩ := h
          refine ⟨e1, fun hok hex => ?_⟩
          have h1 := k1 hok hex
          exact ⟨h1.1, fun L ob hM hO => ⟨(h1.2 L ob hM hO).1, fun df K Q hq => awp_block ((h1.2 L ob hM hO).2 df K _ fun L' ob' hM' hO' => by simpa [blockP, hne] using hq L' ob' hM' hO')⟩⟩
      | _ =>
        cases h
        refine ⟨e1, fun hok hex => ?_⟩
        have h1 := k1 hok hex
        exact ⟨h1.1, fun L ob hM hO => ⟨(h1.2 L ob hM hO).1, fun df K Q hq => awp_block ((h1.2 L ob hM hO).2 df K _ fun L' ob' hM' hO' => hq L' ob' hM' hO')⟩⟩
  | .loop c, M, O, N, tm, x, M', O', N', tm', h => loop_ok (fun h => runCode_ok hcf hm lf c h) lf h
  | .scope c, M, O, N, tm, x, M', O', N', tm', h => by
    replace h : scopeR (runCode P n callf pu lf c M O N tm) = .ok x M' O' N' tm' := h
    cases hc : runCode P n callf pu lf c M O N tm with
    | fail => rw [hc] at h; cases h
    | ok x1 M1 O1 N1 t1 =>
      rw [hc] at h
      obtain ⟨e1, k1⟩ := runCode_ok hcf hm lf c hc
      cases x1 with
      | goto j => cases h
      | _ =>
        cases h
        refine ⟨e1, fun hok hex => ?_⟩
        have h1 := k1 hok hex
        exact ⟨h1.1, fun L ob hM hO => ⟨(h1.2 L ob hM hO).1, fun df K Q hq => awp_scope ((h1.2 L ob hM hO).2 df K _ fun L' ob' hM' hO' => hq L' ob' hM' hO')⟩⟩
  | .goto _, M, O, N, tm, x, M', O', N', tm', h => by cases h
  | .rangeFunc _ _ _ _, M, O, N, tm, x, M', O', N', tm', h => by cases h
  | .refuse _, M, O, N, tm, x, M', O', N', tm', h => by cases h
end
end Go.Am
