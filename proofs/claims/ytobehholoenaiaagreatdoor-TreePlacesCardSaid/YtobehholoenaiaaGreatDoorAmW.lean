/-
  An abstract machine, part W: what the program runs is so: regions, code, functions, deferred functions.
-/
import Derived.Test.YtobehholoenaiaaGreatDoorAmU
import Derived.Recover
import Derived.RangeFuncIn
import Derived.RangeFuncRecord
namespace Go.Am

/-- what a step of the program says -/
def SOk (P : Program) (n : Nat) (ops : Array Oper) (o : Oper) (L : Loc) (ob : List Ob) (O : Tri Ob) (tm : TM) : SR → Prop
  | .fail => True
  | .val rc M' O' N' tm' => allT tm'.ok = true → ∃ ob', RelO O' N' ob' ∧ RelM M' (upd L rc) ∧ Sub rc.us L ∧ rc.dst = o.dst ∧ (∀ d, o.dst = some d → d < n) ∧ StepK P ops o rc ob ob' ∧ rc.ks = [] ∧ Kept O O' tm tm'
  | .pan av O' N' tm' => allT tm'.ok = true → ∃ ob', RelO O' N' ob' ∧ PStep P ops o L ob av ob' ∧ Kept O O' tm tm'
/-- .. a region's operations -/
def ROk (P : Program) (n : Nat) (ops : Array Oper) (l : List Oper) (L : Loc) (ob : List Ob) (O : Tri Ob) (tm : TM) : RR → Prop
  | .fail => True
  | .ok recs M2 O2 N2 tm2 => allT tm2.ok = true → ∃ L2 ob2, RelM M2 L2 ∧ RelO O2 N2 ob2 ∧ Ev P n ops l recs L ob L2 ob2 ∧ (∀ rc ∈ recs, rc.ks = []) ∧ Kept O O2 tm tm2
  | .pan av M2 O2 N2 tm2 => allT tm2.ok = true → ∃ l1 o l2 recs L1 ob1 ob2, l = l1 ++ o :: l2 ∧ Ev P n ops l1 recs L ob L1 ob1 ∧ (∀ rc ∈ recs, rc.ks = []) ∧ RelM M2 L1 ∧ RelO O2 N2 ob2 ∧ PStep P ops o L1 ob1 av ob2 ∧ Kept O O2 tm tm2

section
variable {P : Program} {n : Nat} {callf : CallF} {pu : FuncId → Bool}
theorem execR_ok {ops : Array Oper} {M : Tri AV} {L gu : Loc} {O : Tri Ob} {N : Nat} {ob : List Ob} (hM : RelM M L) (hO : RelO O N ob) {o : Oper} (hg : Gd ops L o.guard gu) (hn : ∀ d, o.dst = some d → d < n) (tm : TM) :
    SOk P n ops o L ob O tm (execR M o.dst gu O N tm upT appO (exec P (tev M) o O.get N)) := by
  rw [hM.tev, hO.fun, ← hO.1]
  cases hx : exec P (aeval L) o (fun i => ob[i]?) ob.length with
  | none => trivial
  | some out =>
    obtain ⟨dst, op, ty, pos, after, guard⟩ := o
    obtain ⟨k1, k2, k3⟩ := steps_inv (exec_sound hg hn hx)
    obtain ⟨r, kd, d, xs⟩ := out
    have hO' : RelO O ob.length ob := hO.1 ▸ hO
    have hra := hO'.app d
    refine fun _ => ⟨_, hra, ?_, k1, rfl, hn, k3, rfl, fun i hi => (un_low hi).1, fun i hi => appO_get (un_low hi).2⟩
    exact hM.up dst r
theorem chkR_ok {ops : Array Oper} {M : Tri AV} {L gu : Loc} {O : Tri Ob} {N : Nat} {ob : List Ob} (hM : RelM M L) (hO : RelO O N ob) {o : Oper} (hg : Gd ops L o.guard gu) (hn : ∀ d, o.dst = some d → d < n) (tm : TM) :
    SOk P n ops o L ob O tm (chkR M o.dst gu O N tm upT appO (exec P (tev M) o O.get N) (chkE P (tev M) o.op O.get N)) := by
  cases hc : chkE P (tev M) o.op O.get N with
  | none => exact execR_ok hM hO hg hn tm
  | some q =>
    obtain ⟨p, out⟩ := q
    have h1 := execR_ok (P := P) (n := n) hM hO hg hn tm
    cases p with
    | false =>
      obtain ⟨r, kd, d, xs⟩ := out
      intro hok
      simp [TM.low, TM.asks, allT] at hok
    | true =>
      rw [chkE_exec hc] at h1
      obtain ⟨r, kd, d, xs⟩ := out
      intro hok
      simp only [TM.low, TM.asks, allT, Bool.true_and] at hok
      exact h1 hok
theorem hintR_ok {ops : Array Oper} {M : Tri AV} {L gu : Loc} {O : Tri Ob} {N : Nat} {ob : List Ob} (hM : RelM M L) (hO : RelO O N ob) {o : Oper} (hg : Gd ops L o.guard gu) (hn : ∀ d, o.dst = some d → d < n) (tm : TM) (g : Gi) (r : List Gi) {y : SR} (hy : SOk P n ops o L ob O tm y) :
    SOk P n ops o L ob O tm (hintR M o.dst gu O N tm r upT appO y (hintE P (tev M) o.op O.get g)) := by
  cases hc : hintE P (tev M) o.op O.get g with
  | none => exact hy
  | some q =>
    obtain ⟨p, out⟩ := q
    have h1 := execR_ok (P := P) (n := n) hM hO hg hn tm
    cases p with
    | false =>
      obtain ⟨r, kd, d, xs⟩ := out
      intro hok
      simp [TM.low, TM.told, allT] at hok
    | true =>
      rw [hintE_exec hc] at h1
      obtain ⟨r, kd, d, xs⟩ := out
      intro hok
      simp only [TM.low, TM.told, allT, Bool.true_and] at hok
      exact h1 hok
theorem steps_ok {ops : Array Oper} {M : Tri AV} {L gu : Loc} {O : Tri Ob} {N : Nat} {ob : List Ob} (hM : RelM M L) (hO : RelO O N ob) {o : Oper} {out : Out} (hn : ∀ d, o.dst = some d → d < n) (tm : TM) (hS : Steps P n ops L gu o ob out) :
    SOk P n ops o L ob O tm (execR M o.dst gu O N tm upT appO (some out)) := by
  obtain ⟨dst, op, ty, pos, after, guard⟩ := o
  obtain ⟨k1, k2, k3⟩ := steps_inv hS
  obtain ⟨r, kd, d, xs⟩ := out
  obtain rfl := hO.1
  have hra := hO.app d
  refine fun _ => ⟨_, hra, ?_, k1, rfl, hn, k3, rfl, fun i hi => (un_low hi).1, fun i hi => appO_get (un_low hi).2⟩
  exact hM.up dst r
theorem askR_ok {ops : Array Oper} {M : Tri AV} {L gu : Loc} {O : Tri Ob} {N : Nat} {ob : List Ob} (hM : RelM M L) (hO : RelO O N ob) {o : Oper} (hg : Gd ops L o.guard gu) (hn : ∀ d, o.dst = some d → d < n) (tm : TM) (g : Gi) (r : List Gi) {y : SR} (hy : SOk P n ops o L ob O tm y) :
    SOk P n ops o L ob O tm (hintR M o.dst gu O N tm r upT appO y (askE P (tev M) o.type o.op O.get g)) := by
  cases hc : askE P (tev M) o.type o.op O.get g with
  | none => exact hy
  | some q =>
    obtain ⟨p, out⟩ := q
    cases p with
    | false =>
      obtain ⟨r, kd, d, xs⟩ := out
      intro hok
      simp [TM.low, TM.told, allT] at hok
    | true =>
      rw [hM.tev, hO.fun] at hc
      have hS : Steps P n ops L gu o ob out := by
        obtain ⟨dst, op, ty, pos, after, guard⟩ := o
        exact askE_steps hg hn hc
      have h1 := steps_ok (P := P) (n := n) hM hO hn tm hS
      obtain ⟨r, kd, d, xs⟩ := out
      intro hok
      simp only [TM.low, TM.told, allT, Bool.true_and] at hok
      exact h1 hok
theorem callE_ok (hcf : CallOk P callf) {ops : Array Oper} {M : Tri AV} {L gu : Loc} {O : Tri Ob} {N : Nat} {ob : List Ob} (hM : RelM M L) (hO : RelO O N ob) {x : Operand} {args : List Operand} {ts : Array TypeId} {dst : Option Nat} {ty : TypeId} {pos : String} {after : Array Edge} {guard : Option (Nat × Bool)}
    (hg : Gd ops L guard gu) (hn : ∀ d, dst = some d → d < n) (tm : TM) :
    SOk P n ops ⟨dst, .call ⟨.value x, args.toArray, ts⟩, ty, pos, after, guard⟩ L ob O tm (callE P callf pu dst gu x args M O N tm) := by
  unfold callE
  rw [hM.tev]
  split
  · rename_i o avs xs hx ha
    have hA := evAE_spec ha
    cases hcall : callf (yBase + o) avs O N tm with
    | fail => trivial
    | ret r O1 N1 t1 =>
      refine fun hok => ?_
      obtain ⟨ob1, h1, h2, h3⟩ := ((hcf _ _ O N tm).1 _ _ _ _ hcall).2 hok ob hO
      have hpre : ∀ i, tb t1.lo i = false → ob1[i]? = ob[i]? := fun i hi => by rw [← h1.2, ← hO.2]; exact h3 i hi
      obtain ⟨k1, k2⟩ := step_yl (dst := dst) (ty := ty) (pos := pos) (after := after) (ts := ts) hg hx hA (h2.2 o rfl) hpre
      exact ⟨ob1, h1, hM.up dst r, k1, rfl, hn, k2, rfl, fun i hi => (un_meet hi).1, fun i hi => h3 i (un_meet hi).2⟩
    | pan av O1 N1 t1 =>
      exact absurd ((hcf _ _ O N tm).2 _ _ _ _ hcall).1 (Nat.not_lt.2 (Nat.le_add_right _ _))
  · rename_i f fs cs avs xs hx ha
    have hA := evAE_spec ha
    cases hfy : Nat.blt f yBase with
    | false => trivial
    | true =>
    have hfb : f < yBase := Nat.le_of_ble_eq_true hfy
    simp only [Bool.not_true, cond_false]
    cases hesc : noEscB P f with
    | true =>
      simp only [cond_true]
      unfold escE
      split
      · rename_i y av
        refine fun _ => ?_
        obtain ⟨k1, k2, k3, k4⟩ := evk_inv (P := P) (n := n) (ops := ops) (L := L) (o := ⟨dst, .call ⟨.value x, #[y], ts⟩, ty, pos, after, guard⟩) (ob := ob) (ob' := ob) (rc := ⟨dst, gu ++ uses ((x, .fn (.func f) [] []) :: xs), av, [], .pure⟩)
          (fun kf kk => noEsc_step hesc hx hA hg hn kk)
        exact ⟨ob, hO, hM.up dst av, k1, k2, k3, k4, rfl, Kept.refl _ _⟩
      · trivial
    | false =>
    simp only [cond_false]
    have hD : SOk P n ops ⟨dst, .call ⟨.value x, args.toArray, ts⟩, ty, pos, after, guard⟩ L ob O tm (callDE (callf f (fs ++ (avs ++ cs)) O N tm) (fun r kd => ⟨dst, gu ++ uses ((x, .fn (.func f) fs cs) :: xs), r, [], kd⟩) (fun r => upT M r dst) O N tm) := by
      cases hcall : callf f (fs ++ (avs ++ cs)) O N tm with
      | fail => trivial
      | ret r O1 N1 t1 =>
        simp only [callDE]
        cases hdr : Nat.beq (Nat.mod t1.lo (Nat.pow 2 N)) 0 && t1.syn (r.und N) false with
        | true =>
          simp only [Bool.and_eq_true] at hdr
          refine fun hok => ?_
          obtain ⟨ob1, h1, h2, h3⟩ := ((hcf f _ O N tm).1 _ _ _ _ hcall).2 hok ob hO
          obtain rfl := hO.1
          have hpre : ∀ i, i < ob.length → ob1[i]? = ob[i]? := fun i hi => by rw [← h1.2, ← hO.2]; exact h3 i (un_mod hdr.1 hi)
          have happ : ∃ xs, ob1 = ob ++ xs := by
            refine ⟨ob1.drop ob.length, ?_⟩
            apply List.ext_getElem?
            intro i
            by_cases hi : i < ob.length
            · rw [List.getElem?_append_left hi]; exact hpre i hi
            · rw [List.getElem?_append_right (by omega), List.getElem?_drop]; congr 1; omega
          obtain ⟨k1, k2, k3, k4⟩ := evk_inv (P := P) (n := n) (ops := ops) (L := L) (o := ⟨dst, .call ⟨.value x, args.toArray, ts⟩, ty, pos, after, guard⟩) (ob := ob) (ob' := ob) (rc := ⟨dst, gu ++ uses ((x, .fn (.func f) fs cs) :: xs), r, [], .from ob.length⟩)
            (fun kf kk => ev_from ob.length (fun _ _ => rfl) (fun kf kk => ev_callW hx hA (aret_dropR ((h2.1 hfb).mono fun e o ⟨g1, g2⟩ => ⟨g1, by rw [g2]; exact happ⟩) (syn_false hdr.2)) hg hn kk) kk)
          exact ⟨ob, hO, hM.up dst r, k1, k2, k3, ⟨rfl, rfl, k4.2⟩, rfl, Kept.refl _ _⟩
        | false =>
        refine fun hok => ?_
        obtain ⟨ob1, h1, h2, h3⟩ := ((hcf f _ O N tm).1 _ _ _ _ hcall).2 hok ob hO
        have hpre : ∀ i, tb t1.lo i = false → ob1[i]? = ob[i]? := fun i hi => by rw [← h1.2, ← hO.2]; exact h3 i hi
        obtain ⟨k1, k2, k3, k4⟩ := evk_inv (P := P) (n := n) (ops := ops) (L := L) (o := ⟨dst, .call ⟨.value x, args.toArray, ts⟩, ty, pos, after, guard⟩) (ob := ob) (ob' := ob1) (rc := ⟨dst, gu ++ uses ((x, .fn (.func f) fs cs) :: xs), r, [], .chg t1.lo⟩)
          (fun kf kk => ev_chg t1.lo hpre (fun kf kk => ev_callW hx hA (h2.1 hfb) hg hn kk) kk)
        exact ⟨ob1, h1, hM.up dst r, k1, k2, k3, k4, rfl, fun i hi => (un_meet hi).1, fun i hi => h3 i (un_meet hi).2⟩
      | pan av O1 N1 t1 =>
        refine fun hok => ?_
        obtain ⟨ob1, h1, h2, h3⟩ := ((hcf f _ O N tm).2 _ _ _ _ hcall).2.2 hok ob hO
        exact ⟨ob1, h1, pan_call hg hx hA h2, fun i hi => (un_meet hi).1, fun i hi => h3 i (un_meet hi).2⟩
    generalize hq : tm.askq (pureVals avs && pureVals fs && pureVals cs) = tq
    have hlo : tq.lo = tm.lo := by rw [← hq, askq_lo]
    cases hv : tm.syn (pureVals avs && pureVals fs && pureVals cs) (synPs avs && synPs fs && synPs cs) with
    | false =>
      simp only [cond_false]
      cases hp : pu f with
      | true => trivial
      | false => exact hD
    | true =>
      simp only [cond_true]
      have hvv : allT tq.ok = true → (pureVals avs = true ∧ pureVals fs = true) ∧ pureVals cs = true := fun h => by
        have := syn_real hv (by rw [hq]; exact h)
        simpa only [Bool.and_eq_true] using this
      cases hcall : callf f (fs ++ (avs ++ cs)) .e 0 tq with
      | fail => trivial
      | pan av O1 N1 t1 => exact hD
      | ret r O1 N1 t1 =>
        simp only [callQE]
        cases hk : Nat.beq N1 0 && t1.syn r.pure r.synP with
        | true =>
          simp only [Bool.and_eq_true] at hk
          have hN := Nat.eq_of_beq_eq_true hk.1
          subst hN
          refine fun hok => ?_
          have hkk : r.pure = true := syn_real (tm := tm.take t1) (by rw [syn_take]; exact hk.2) hok
          replace hok : allT t1.ok = true := askq_all (tm := tm.take t1) hok
          have hv := hvv (((hcf f _ .e 0 tq).1 _ _ _ _ hcall).1.ok hok)
          obtain ⟨ob1, h1, h2, _⟩ := ((hcf f _ .e 0 tq).1 _ _ _ _ hcall).2 hok [] RelO.nil
          have : ob1 = [] := List.eq_nil_of_length_eq_zero h1.1
          subst this
          obtain ⟨k1, k2, k3, k4⟩ := evk_inv (P := P) (n := n) (ops := ops) (L := L) (o := ⟨dst, .call ⟨.value x, args.toArray, ts⟩, ty, pos, after, guard⟩) (ob := ob) (ob' := ob) (rc := ⟨dst, gu ++ uses ((x, .fn (.func f) fs cs) :: xs), r, [], .pure⟩)
            (fun kf kk => ev_callP hx hA (h2.1 hfb) hv.1.1 hv.1.2 hv.2 hkk hg hn kk)
          exact ⟨ob, hO, hM.up dst r, k1, k2, k3, k4, rfl, fun i hi => by rw [askq_lo] at hi; exact hi, fun _ _ => rfl⟩
        | false =>
         simp only [cond_false]
         cases hfr : frzR f r O1 N1 with
         | some r' =>
          refine fun hok => ?_
          have hv := hvv (((hcf f _ .e 0 tq).1 _ _ _ _ hcall).1.ok hok)
          obtain ⟨ob1, h1, h2, _⟩ := ((hcf f _ .e 0 tq).1 _ _ _ _ hcall).2 hok [] RelO.nil
          obtain ⟨ha', hp'⟩ := frzR_ok hfr h1 (h2.1 hfb)
          obtain ⟨k1, k2, k3, k4⟩ := evk_inv (P := P) (n := n) (ops := ops) (L := L) (o := ⟨dst, .call ⟨.value x, args.toArray, ts⟩, ty, pos, after, guard⟩) (ob := ob) (ob' := ob) (rc := ⟨dst, gu ++ uses ((x, .fn (.func f) fs cs) :: xs), r', [], .pure⟩)
            (fun kf kk => ev_callP hx hA ha' hv.1.1 hv.1.2 hv.2 hp' hg hn kk)
          exact ⟨ob, hO, hM.up dst r', k1, k2, k3, k4, rfl, Kept.refl _ _⟩
         | none =>
          refine fun hok => ?_
          have hv := hvv (((hcf f _ .e 0 tq).1 _ _ _ _ hcall).1.ok hok)
          obtain ⟨ob1, h1, h2, _⟩ := ((hcf f _ .e 0 tq).1 _ _ _ _ hcall).2 hok [] RelO.nil
          have hp : pureVals (fs ++ (avs ++ cs)) = true := pureVals_app hv.1.2 (pureVals_app hv.1.1 hv.2)
          have hpush := aret_push (h2.1 hfb) hp ob
          obtain rfl := hO.1
          have hf : fsel [] ob.length = shf ob.length := by
            funext i
            simp [fsel, shf]
          have hrel := triOk_rel (objsF O1 ob.length N1 0) O ob.length ob hO
          rw [objsF_eq h1] at hrel
          have hl : (ob1.map (Ob.ren (fsel [] ob.length))).length = N1 := by rw [List.length_map]; exact h1.1
          rw [hl] at hrel
          rw [hf] at hpush
          obtain ⟨k1, k2, k3, k4⟩ := evk_inv (P := P) (n := n) (ops := ops) (L := L) (o := ⟨dst, .call ⟨.value x, args.toArray, ts⟩, ty, pos, after, guard⟩) (ob := ob) (ob' := ob ++ ob1.map (Ob.ren (shf ob.length))) (rc := ⟨dst, gu ++ uses ((x, .fn (.func f) fs cs) :: xs), r.ren (shf ob.length), [], .from ob.length⟩)
            (fun kf kk => ev_from ob.length (fun i hi => List.getElem?_append_left hi) (fun kf kk => ev_callW hx hA hpush hg hn kk) kk)
          refine ⟨_, by rw [objsF_eq h1, hf]; rw [hf] at hrel; exact hrel, hM.up dst _, k1, k2, k3, k4, rfl, fun i hi => (un_low hi).1, fun i hi => ?_⟩
          rw [objsF_eq h1]
          rw [hrel.2, hO.2]
          rcases un_bitsF (un_low hi).2 with h | h
          · rw [List.getElem?_append_left h]
          · rw [List.getElem?_eq_none (by rw [List.length_append, hl]; exact h), List.getElem?_eq_none (by omega)]
  · trivial
theorem stepOp_ok (hcf : CallOk P callf) {all : List Oper} {M : Tri AV} {L : Loc} {O : Tri Ob} {N : Nat} {ob : List Ob} (hM : RelM M L) (hO : RelO O N ob) (o : Oper) (tm : TM) :
    SOk P n all.toArray o L ob O tm (stepOp P n callf pu all o M O N tm) := by
  unfold stepOp
  cases hd : dstB n o.dst with
  | false => trivial
  | true =>
    have hn := dstB_spec hd
    simp only [cond_true]
    split
    · rename_i gu hgd
      have hg := gdE_true hM hgd
      unfold doOp
      obtain ⟨dst, op, ty, pos, after, guard⟩ := o
      split
      · rename_i c hop
        simp only at hop
        subst hop
        obtain ⟨callee, args, ts⟩ := c
        split
        · rename_i x hc
          simp only at hc
          subst hc
          have := callE_ok (pu := pu) hcf (P := P) (n := n) (ops := all.toArray) hM hO (x := x) (args := args.toList) (ts := ts) (dst := dst) (ty := ty) (pos := pos) (after := after) (guard := guard) hg hn tm
          simpa using this
        · split
          · exact execR_ok hM hO hg hn tm
          · exact askR_ok hM hO hg hn tm _ _ (chkR_ok hM hO hg hn tm)
      · split
        · exact execR_ok hM hO hg hn tm
        · exact hintR_ok hM hO hg hn tm _ _ (chkR_ok hM hO hg hn tm)
      · split
        · exact execR_ok hM hO hg hn tm
        · exact askR_ok hM hO hg hn tm _ _ (chkR_ok hM hO hg hn tm)
      · split
        · exact execR_ok hM hO hg hn tm
        · exact hintR_ok hM hO hg hn tm _ _ (execR_ok hM hO hg hn tm)
      · split
        · exact execR_ok hM hO hg hn tm
        · exact hintR_ok hM hO hg hn tm _ _ (execR_ok hM hO hg hn tm)
      · rename_i x hop
        simp only at hop
        subst hop
        unfold panE
        rw [hM.tev]
        split
        · rename_i t y hx
          exact fun _ => ⟨ob, hO, pan_op hg hx, Kept.refl _ _⟩
        · trivial
      · split
        · exact execR_ok hM hO hg hn tm
        · rename_i g r hgd'
          unfold cmpR
          split
          · rename_i d b xs hx
            have hb := execR_ok (P := P) (n := n) hM hO hg hn tm
            rw [hx] at hb
            intro hok
            simp only [TM.told, allT, Bool.and_eq_true] at hok
            have hbd : b = d := by
              have := hok.1
              cases b <;> cases d <;> simp_all
            subst hbd
            obtain ⟨ob', q1, q2, q3, q4, q5, q6, q7, q8⟩ := hb hok.2
            exact ⟨ob', q1, q2, q3, q4, q5, q6, q7, fun i h => h, fun i _ => rfl⟩
          · rename_i z k m xs hx
            have hb := execR_ok (P := P) (n := n) hM hO hg hn tm
            rw [hx] at hb
            intro hok
            simp only [TM.told, allT, Bool.and_eq_true] at hok
            have hbd := dec_true.1 hok.1
            subst hbd
            obtain ⟨ob', q1, q2, q3, q4, q5, q6, q7, q8⟩ := hb hok.2
            exact ⟨ob', q1, q2, q3, q4, q5, q6, q7, fun i h => h, fun i _ => rfl⟩
          · exact execR_ok hM hO hg hn tm
      · split
        · exact execR_ok hM hO hg hn tm
        · exact askR_ok hM hO hg hn tm _ _ (execR_ok hM hO hg hn tm)
    · rename_i gu hgd
      obtain ⟨k1, k2⟩ := skip_inv (P := P) (n := n) (ob := ob) (gdE_false hM hgd) hn
      exact fun _ => ⟨ob, hO, hM.up _ _, k1, rfl, hn, k2, rfl, Kept.refl _ _⟩
    · trivial
theorem runOps_nil (all : List Oper) (M : Tri AV) (O : Tri Ob) (N : Nat) (tm : TM) : runOps P n callf pu all [] M O N tm = .ok [] M O N tm := rfl
theorem runOps_cons (all : List Oper) (o : Oper) (l : List Oper) (M : Tri AV) (O : Tri Ob) (N : Nat) (tm : TM) : runOps P n callf pu all (o :: l) M O N tm = glueR M (runOps P n callf pu all l) (stepOp P n callf pu all o M O N tm) := rfl
theorem take_ext {t u : TM} (h : Ext t u) : Ext t (t.take u) := h
theorem stepOp_ext (hcf : CallOk P callf) {all : List Oper} {o : Oper} {M : Tri AV} {O : Tri Ob} {N : Nat} {tm : TM} :
    (∀ {rc M' O' N' tm'}, stepOp P n callf pu all o M O N tm = .val rc M' O' N' tm' → Ext tm tm') ∧ (∀ {av O' N' tm'}, stepOp P n callf pu all o M O N tm = .pan av O' N' tm' → Ext tm tm') := by
  have hex : ∀ (gu : Loc) (x : Option Out), (∀ {rc M' O' N' tm'}, execR M o.dst gu O N tm upT appO x = .val rc M' O' N' tm' → Ext tm tm') ∧ (∀ {av O' N' tm'}, execR M o.dst gu O N tm upT appO x = .pan av O' N' tm' → Ext tm tm') := by
    intro gu x
    cases x with
    | none => exact ⟨fun h => (by cases h), fun h => (by cases h)⟩
    | some out => obtain ⟨r, kd, d, xs⟩ := out; exact ⟨fun h => (by cases h; exact Ext.refl _), fun h => (by cases h)⟩
  have hck : ∀ (gu : Loc) (x : Option Out) (y : Option (Bool × Out)), (∀ {rc M' O' N' tm'}, chkR M o.dst gu O N tm upT appO x y = .val rc M' O' N' tm' → Ext tm tm') ∧ (∀ {av O' N' tm'}, chkR M o.dst gu O N tm upT appO x y = .pan av O' N' tm' → Ext tm tm') := by
    intro gu x y
    cases y with
    | none => exact hex gu x
    | some q => obtain ⟨p, r, kd, d, xs⟩ := q; exact ⟨fun h => (by cases h; exact ⟨[p], rfl⟩), fun h => (by cases h)⟩
  have hhi : ∀ (gu : Loc) (r : List Gi) (y : SR) (q : Option (Bool × Out)), ((∀ {rc M' O' N' tm'}, y = .val rc M' O' N' tm' → Ext tm tm') ∧ (∀ {av O' N' tm'}, y = .pan av O' N' tm' → Ext tm tm')) → (∀ {rc M' O' N' tm'}, hintR M o.dst gu O N tm r upT appO y q = .val rc M' O' N' tm' → Ext tm tm') ∧ (∀ {av O' N' tm'}, hintR M o.dst gu O N tm r upT appO y q = .pan av O' N' tm' → Ext tm tm') := by
    intro gu r y q hy
    cases q with
    | none => exact hy
    | some q => obtain ⟨p, r, kd, d, xs⟩ := q; exact ⟨fun h => (by cases h; exact ⟨[p], rfl⟩), fun h => (by cases h)⟩
  have key : ∀ gu, (∀ {rc M' O' N' tm'}, doOp P callf pu o gu M O N tm = .val rc M' O' N' tm' → Ext tm tm') ∧ (∀ {av O' N' tm'}, doOp P callf pu o gu M O N tm = .pan av O' N' tm' → Ext tm tm') := by
    intro gu
    unfold doOp
    split
    · split
      · unfold callE
        split
        · rename_i o avs xs _ _
          cases hcall : callf (yBase + o) avs O N tm with
          | fail => exact ⟨fun h => (by cases h), fun h => (by cases h)⟩
          | ret r O1 N1 t1 => exact ⟨fun h => (by cases h; exact ((hcf _ _ O N tm).1 _ _ _ _ hcall).1), fun h => (by cases h)⟩
          | pan av O1 N1 t1 => exact ⟨fun h => (by cases h), fun h => (by cases h; exact ((hcf _ _ O N tm).2 _ _ _ _ hcall).2.1)⟩
        · rename_i f fs cs avs xs _ _
          cases Nat.blt f yBase with
          | false => exact ⟨fun h => (by cases h), fun h => (by cases h)⟩
          | true =>
          simp only [Bool.not_true, cond_false]
          cases noEscB P f with
          | true =>
            simp only [cond_true]
            unfold escE
            split
            · exact ⟨fun h => (by cases h; exact Ext.refl _), fun h => (by cases h)⟩
            · exact ⟨fun h => (by cases h), fun h => (by cases h)⟩
          | false =>
          simp only [cond_false]
          have hD : ∀ x0 : Operand, (∀ {rc M' O' N' tm'}, callDE (callf f (fs ++ (avs ++ cs)) O N tm) (fun r kd => (⟨o.dst, gu ++ uses ((x0, .fn (.func f) fs cs) :: xs), r, [], kd⟩ : Rec)) (fun r => upT M r o.dst) O N tm = .val rc M' O' N' tm' → Ext tm tm') ∧ (∀ {av O' N' tm'}, callDE (callf f (fs ++ (avs ++ cs)) O N tm) (fun r kd => (⟨o.dst, gu ++ uses ((x0, .fn (.func f) fs cs) :: xs), r, [], kd⟩ : Rec)) (fun r => upT M r o.dst) O N tm = .pan av O' N' tm' → Ext tm tm') := by
            intro x0
            cases hcall : callf f (fs ++ (avs ++ cs)) O N tm with
            | fail => exact ⟨fun h => (by cases h), fun h => (by cases h)⟩
            | ret r O1 N1 t1 =>
              simp only [callDE]
              cases Nat.beq (Nat.mod t1.lo (Nat.pow 2 N)) 0 && t1.syn (r.und N) false with
              | true => exact ⟨fun h => (by cases h; exact ((hcf f _ O N tm).1 _ _ _ _ hcall).1), fun h => (by cases h)⟩
              | false => exact ⟨fun h => (by cases h; exact ((hcf f _ O N tm).1 _ _ _ _ hcall).1), fun h => (by cases h)⟩
            | pan av O1 N1 t1 => exact ⟨fun h => (by cases h), fun h => (by cases h; exact ((hcf f _ O N tm).2 _ _ _ _ hcall).2.1)⟩
          cases tm.syn (pureVals avs && pureVals fs && pureVals cs) (synPs avs && synPs fs && synPs cs) with
          | false =>
            simp only [cond_false]
            cases pu f with
            | true => exact ⟨fun h => (by cases h), fun h => (by cases h)⟩
            | false => exact hD _
          | true =>
            simp only [cond_true]
            cases hcall : callf f (fs ++ (avs ++ cs)) .e 0 (tm.askq (pureVals avs && pureVals fs && pureVals cs)) with
            | fail => exact ⟨fun h => (by cases h), fun h => (by cases h)⟩
            | pan av O1 N1 t1 => exact hD _
            | ret r O1 N1 t1 =>
              have he := (askq_ext tm _).trans ((hcf f _ .e 0 (tm.askq _)).1 _ _ _ _ hcall).1
              simp only [callQE]
              cases Nat.beq N1 0 && t1.syn r.pure r.synP with
              | true => exact ⟨fun h => (by cases h; exact he.trans (askq_ext (tm.take t1) _)), fun h => (by cases h)⟩
              | false =>
                simp only [cond_false]
                cases frzR f r O1 N1 with
                | some r' => exact ⟨fun h => (by cases h; exact he), fun h => (by cases h)⟩
                | none => exact ⟨fun h => (by cases h; exact he), fun h => (by cases h)⟩
        · exact ⟨fun h => (by cases h), fun h => (by cases h)⟩
      · split
        · exact hex gu _
        · exact hhi gu _ _ _ (hck gu _ _)
    · split
      · exact hex gu _
      · exact hhi gu _ _ _ (hck gu _ _)
    · split
      · exact hex gu _
      · exact hhi gu _ _ _ (hck gu _ _)
    · split
      · exact hex gu _
      · exact hhi gu _ _ _ (hex gu _)
    · split
      · exact hex gu _
      · exact hhi gu _ _ _ (hex gu _)
    · unfold panE
      split
      · exact ⟨fun h => (by cases h), fun h => (by cases h; exact Ext.refl _)⟩
      · exact ⟨fun h => (by cases h), fun h => (by cases h)⟩
    · split
      · exact hex gu _
      · unfold cmpR
        split
        · exact ⟨fun h => (by cases h; exact ⟨[_], rfl⟩), fun h => (by cases h)⟩
        · exact ⟨fun h => (by cases h; exact ⟨[_], rfl⟩), fun h => (by cases h)⟩
        · exact hex gu _
    · split
      · exact hex gu _
      · exact hhi gu _ _ _ (hex gu _)
  unfold stepOp
  cases dstB n o.dst with
  | false => exact ⟨fun h => (by cases h), fun h => (by cases h)⟩
  | true =>
    simp only [cond_true]
    split
    · exact key _
    · exact ⟨fun h => (by cases h; exact Ext.refl _), fun h => (by cases h)⟩
    · exact ⟨fun h => (by cases h), fun h => (by cases h)⟩
theorem runOps_ext (hcf : CallOk P callf) (all : List Oper) : ∀ (l : List Oper) {M : Tri AV} {O : Tri Ob} {N : Nat} {tm : TM},
    (∀ {recs M' O' N' tm'}, runOps P n callf pu all l M O N tm = .ok recs M' O' N' tm' → Ext tm tm') ∧ (∀ {av M' O' N' tm'}, runOps P n callf pu all l M O N tm = .pan av M' O' N' tm' → Ext tm tm')
  | [], M, O, N, tm => ⟨fun h => (by cases h; exact Ext.refl _), fun h => (by cases h)⟩
  | o :: l, M, O, N, tm => by
    rw [runOps_cons]
    have hs := stepOp_ext (pu := pu) (n := n) hcf (all := all) (o := o) (M := M) (O := O) (N := N) (tm := tm)
    cases hst : stepOp P n callf pu all o M O N tm with
    | fail => exact ⟨fun h => (by cases h), fun h => (by cases h)⟩
    | pan av O1 N1 t1 => exact ⟨fun h => (by cases h), fun h => (by cases h; exact hs.2 hst)⟩
    | val rc M1 O1 N1 t1 =>
      have h1 := hs.1 hst
      have ih := runOps_ext hcf all l (M := M1) (O := O1) (N := N1) (tm := t1)
      simp only [glueR]
      cases hr : runOps P n callf pu all l M1 O1 N1 t1 with
      | fail => exact ⟨fun h => (by cases h), fun h => (by cases h)⟩
      | ok recs M2 O2 N2 t2 => exact ⟨fun h => (by cases h; exact h1.trans (ih.1 hr)), fun h => (by cases h)⟩
      | pan av M2 O2 N2 t2 => exact ⟨fun h => (by cases h), fun h => (by cases h; exact h1.trans (ih.2 hr))⟩
theorem runOps_ok (hcf : CallOk P callf) (all : List Oper) : ∀ (l : List Oper) {M : Tri AV} {L : Loc} {O : Tri Ob} {N : Nat} {ob : List Ob} (_hM : RelM M L) (_hO : RelO O N ob) (tm : TM), ROk P n all.toArray l L ob O tm (runOps P n callf pu all l M O N tm)
  | [], M, L, O, N, ob, hM, hO, tm => fun _ => ⟨L, ob, hM, hO, .nil _ _, by simp, Kept.refl _ _⟩
  | o :: l, M, L, O, N, ob, hM, hO, tm => by
    rw [runOps_cons]
    have hs := stepOp_ok (pu := pu) (n := n) hcf (all := all) hM hO o tm
    cases hst : stepOp P n callf pu all o M O N tm with
    | fail => trivial
    | pan av O1 N1 t1 =>
      rw [hst] at hs
      intro hok
      obtain ⟨ob1, h1, h2, h3⟩ := hs hok
      exact ⟨[], o, l, [], L, ob, ob1, rfl, .nil _ _, by simp, hM, h1, h2, h3⟩
    | val rc M1 O1 N1 t1 =>
      rw [hst] at hs
      have hext := runOps_ext (pu := pu) (n := n) hcf all l (M := M1) (O := O1) (N := N1) (tm := t1)
      simp only [glueR]
      cases hr : runOps P n callf pu all l M1 O1 N1 t1 with
      | fail => trivial
      | ok recs M2 O2 N2 t2 =>
        intro hok
        obtain ⟨ob1, h1, h2, h3, h4, h5, h6, h7, h8⟩ := hs ((hext.1 hr).ok hok)
        have ih := runOps_ok hcf all l h2 h1 t1
        rw [hr] at ih
        obtain ⟨L2, ob2, g1, g2, g3, g4, g5⟩ := ih hok
        exact ⟨L2, ob2, g1, g2, .cons h3 h4 h5 h6 g3, fun r hrc => by
          rcases List.mem_cons.1 hrc with e | e
          · subst e; exact h7
          · exact g4 r e, h8.trans g5⟩
      | pan av M2 O2 N2 t2 =>
        intro hok
        obtain ⟨ob1, h1, h2, h3, h4, h5, h6, h7, h8⟩ := hs ((hext.2 hr).ok hok)
        have ih := runOps_ok hcf all l h2 h1 t1
        rw [hr] at ih
        obtain ⟨l1, o', l2, recs, L1, oba, obb, g0, g1, g2, g3, g4, g5, g6⟩ := ih hok
        exact ⟨o :: l1, o', l2, rc :: recs, L1, oba, obb, by rw [g0]; rfl, .cons h3 h4 h5 h6 g1, fun r hrc => by
          rcases List.mem_cons.1 hrc with e | e
          · subst e; exact h7
          · exact g2 r e, g3, g4, g5, h8.trans g6⟩

/-! ### Regions -/
theorem gstep_plain {ops : Array Oper} {kd : Kd} (hk : kd.isYl = false) {o : Oper} {a : Act} {w : World} {K : Act → World → Prop} {Q : Exit → Act → World → Prop}
    (h : if Region.wanted o (yielded ops a.tmps) then o.wp P a w K Q ∨ (kd.isYl = true ∧ ∀ ro, o.wpIn (wideR ro) 0 P a w K Q) else K (a.put o.dst undef) w) :
    if Region.wanted o (yielded ops a.tmps) then o.wp P a w K Q ∨ (o.asks P a w ∧ LetsOut Q) else K (a.put o.dst undef) w := by
  split
  · rename_i hw
    rw [if_pos hw] at h
    rcases h with h | h
    · exact .inl h
    · rw [hk] at h; cases h.1
  · rename_i hw
    rw [if_neg hw] at h
    exact h
theorem ev_sound_appI {ops : Array Oper} {l : List Oper} {recs : List Rec} {L L2 : Loc} {ob ob2 : List Ob} (hev : Ev P n ops l recs L ob L2 ob2) (hks : ∀ rc ∈ recs, rc.ks = []) (l2 : List Oper) {ro : Option Nat} (hd : ro = none ∨ l.all Oper.still = true) :
    ∀ {m : Mem} {γ : Gam} {w : World} {a : Act} {Q : Exit → Act → World → Prop}, Inv m γ ob w → RepLoc m γ a L → a.tmps.size = n →
    (∀ m' γ' w' a', Trans m γ w m' γ' w' → Inv m' γ' ob2 w' → RepLoc m' γ' a' L2 → a'.tmps.size = n → a'.defers = a.defers → Le m γ [] m' γ' → wpListIn (wideR ro) 0 P ops Q l2 a' w') → wpListIn (wideR ro) 0 P ops Q (l ++ l2) a w := by
  induction hev with
  | nil L ob => intro m γ w a Q hi hl hs hq; exact hq m γ w a (Trans.refl _ _ _) hi hl hs rfl (Le.refl _ _ _)
  | cons hus hdst hn hst h ih =>
    intro m γ w a Q hi hl hs hq
    have hk := hks _ (List.mem_cons_self ..)
    have hd1 : ro = none ∨ Oper.still _ = true := hd.imp (fun h => h) fun e => by simp only [List.all_cons, Bool.and_eq_true] at e; exact e.1
    have hd2 : ro = none ∨ List.all _ Oper.still = true := hd.imp (fun h => h) fun e => by simp only [List.all_cons, Bool.and_eq_true] at e; exact e.2
    show wpListIn (wideR ro) 0 P ops Q (_ :: (_ ++ l2)) a w
    unfold wpListIn
    refine gstep_in hd1 (hst.step m γ w a _ Q hi (hl.sub hus) fun m' γ' w' x ht hle hi' hx => ?_)
    have hle0 : Le m γ [] m' γ' := by rw [hk] at hle; exact hle
    exact ih (fun rc hrc => hks rc (List.mem_cons_of_mem _ hrc)) hd2 hi' (repLoc_put hl hle hdst (fun e he => by rw [hs]; exact hn e he) hx) (by rw [size_put]; exact hs)
      fun m2 γ2 w2 a2 ht2 hi2 hl2 hs2 hd2 hk2 => hq m2 γ2 w2 a2 (ht.trans ht2) hi2 hl2 hs2 (hd2.trans (defers_put _ _ _))
        ⟨fun b x h => hk2.mem b x (hle0.mem b x h), fun o g hg hc => hk2.gam o g (hle0.gam o g hg hc) hc⟩
theorem ev_sound_app {ops : Array Oper} {l : List Oper} {recs : List Rec} {L L2 : Loc} {ob ob2 : List Ob} (hev : Ev P n ops l recs L ob L2 ob2) (hks : ∀ rc ∈ recs, rc.ks = []) (hyl : ∀ rc ∈ recs, rc.kind.isYl = false) (l2 : List Oper) :
    ∀ {m : Mem} {γ : Gam} {w : World} {a : Act} {Q : Exit → Act → World → Prop}, Inv m γ ob w → RepLoc m γ a L → a.tmps.size = n →
    (∀ m' γ' w' a', Trans m γ w m' γ' w' → Inv m' γ' ob2 w' → RepLoc m' γ' a' L2 → a'.tmps.size = n → a'.defers = a.defers → Le m γ [] m' γ' → wpList P ops Q l2 a' w') → wpList P ops Q (l ++ l2) a w := by
  induction hev with
  | nil L ob => intro m γ w a Q hi hl hs hq; exact hq m γ w a (Trans.refl _ _ _) hi hl hs rfl (Le.refl _ _ _)
  | cons hus hdst hn hst h ih =>
    intro m γ w a Q hi hl hs hq
    have hk := hks _ (List.mem_cons_self ..)
    show wpList P ops Q (_ :: (_ ++ l2)) a w
    unfold wpList
    refine gstep_plain (hyl _ (List.mem_cons_self ..)) (hst.step m γ w a _ Q hi (hl.sub hus) fun m' γ' w' x ht hle hi' hx => ?_)
    have hle0 : Le m γ [] m' γ' := by rw [hk] at hle; exact hle
    exact ih (fun rc hrc => hks rc (List.mem_cons_of_mem _ hrc)) (fun rc hrc => hyl rc (List.mem_cons_of_mem _ hrc)) hi' (repLoc_put hl hle hdst (fun e he => by rw [hs]; exact hn e he) hx) (by rw [size_put]; exact hs)
      fun m2 γ2 w2 a2 ht2 hi2 hl2 hs2 hd2 hk2 => hq m2 γ2 w2 a2 (ht.trans ht2) hi2 hl2 hs2 (hd2.trans (defers_put _ _ _))
        ⟨fun b x h => hk2.mem b x (hle0.mem b x h), fun o g hg hc => hk2.gam o g (hle0.gam o g hg hc) hc⟩

/-- in a function's frame, or in a round's where it may stand -/
def DfOk (df : Option Nat) (c : Code) : Prop := df = none ∨ c.inR = true
def Runs (P : Program) (n : Nat) (c : Code) (M : Tri AV) (O : Tri Ob) (N : Nat) (tm : TM) (x : AX) (M' : Tri AV) (O' : Tri Ob) (N' : Nat) (tm' : TM) : Prop :=
  Kept O O' tm tm' ∧ ∀ L ob, RelM M L → RelO O N ob → (∃ L' ob', RelM M' L' ∧ RelO O' N' ob') ∧
    ∀ df K Q, DfOk df c → (∀ L' ob', RelM M' L' → RelO O' N' ob' → Q x L' ob') → awp df P n K [] c Q L ob
theorem kept_all {K : Nat} {m m' : Mem} {γ γ' : Gam} (h : Le m γ [] m' γ') : ∀ o g, kept K [] o → γ o = some g → γ' o = some g := fun o g ho hg => h.gam o g hg ho.2
theorem region_ok (hcf : CallOk P callf) (hm : P.follows .mixedOrders = true) (id : Nat) (ops : Array Oper) (draw : Bool) {M : Tri AV} {O : Tri Ob} {N : Nat} {tm : TM} {x : AX} {M' : Tri AV} {O' : Tri Ob} {N' : Nat} {tm' : TM}
    (hr : regR ops.toList draw (runOps P n callf pu ops.toList ops.toList M O N tm) = .ok x M' O' N' tm') (hok0 : allT tm'.ok = true) (hex : ∃ L ob, RelM M L ∧ RelO O N ob) : Runs P n (.region id ops draw) M O N tm x M' O' N' tm' := by
  have hops : ops = ops.toList.toArray := by simp
  have base : ∀ L ob, RelM M L → RelO O N ob → Kept O O' tm tm' ∧ (∃ L' ob', RelM M' L' ∧ RelO O' N' ob') ∧ ∀ df K Q, DfOk df (.region id ops draw) → (∀ L' ob', RelM M' L' → RelO O' N' ob' → Q x L' ob') → awp df P n K [] (.region id ops draw) Q L ob := by
    intro L ob hM hO
    have hok := runOps_ok (pu := pu) (n := n) hcf ops.toList ops.toList hM hO tm
    cases hrun : runOps P n callf pu ops.toList ops.toList M O N tm with
    | fail => rw [hrun] at hr; cases hr
    | ok recs M2 O2 N2 t2 =>
      rw [hrun] at hr hok
      have key : x = .normal ∧ M' = M2 ∧ O' = O2 ∧ N' = N2 ∧ tm' = t2 ∧ (draw = true → drawOk ops.toList recs = true) := by
        cases draw with
        | false => simp only [regR, RX.ok.injEq] at hr; obtain ⟨h1, h2, h3, h4, h5⟩ := hr; exact ⟨h1.symm, h2.symm, h3.symm, h4.symm, h5.symm, by simp⟩
        | true =>
          simp only [regR] at hr
          cases hd : drawOk ops.toList recs with
          | false => rw [hd] at hr; cases hr
          | true => rw [hd] at hr; simp only [cond_true, RX.ok.injEq] at hr; obtain ⟨h1, h2, h3, h4, h5⟩ := hr; exact ⟨h1.symm, h2.symm, h3.symm, h4.symm, h5.symm, fun _ => rfl⟩
      obtain ⟨rfl, rfl, rfl, rfl, rfl, hd⟩ := key
      obtain ⟨L2, ob2, g1, g2, g3, g4, g5⟩ := hok hok0
      refine ⟨g5, ⟨L2, ob2, g1, g2⟩, fun df K Q hdo hq => ?_⟩
      intro m γ w a hi hl hs hdf
      cases draw with
      | false =>
        rw [hops]
        refine wpIn_region_lit ?_
        have := ev_sound_appI g3 g4 [] hdo (Q := Post false a.defers K [] n Q m γ w) hi hl hs (fun m' γ' w' a' ht hi' hl' hs' hd' hk' =>
          ⟨m', γ', L2, ob2, .normal, hq L2 ob2 g1 g2, trivial, ht, hi', hl', hs', .of_eq hd', kept_all hk'⟩)
        simpa [Code.rf] using this
      | true =>
        rw [hops]
        exact region_any hm hdo g3 (hd rfl) hi hl hs fun m' γ' w' a' ht hi' hl' hs' hd' hk' =>
          ⟨m', γ', L2, ob2, .normal, hq L2 ob2 g1 g2, trivial, ht, hi', hl', hs', .of_eq hd', fun o g ho hg => hk' o g (fun rc hrc => by rw [g4 rc hrc]; rfl) hg⟩
    | pan av M2 O2 N2 t2 =>
      rw [hrun] at hr hok
      cases draw with
      | true => cases hr
      | false =>
        simp only [regR, Bool.not_false, cond_true, RX.ok.injEq] at hr
        obtain ⟨rfl, rfl, rfl, rfl, rfl⟩ := hr
        obtain ⟨l1, o, l2, recs, L1, oba, obb, g0, g1, g2, g3, g4, g5, g6⟩ := hok hok0
        refine ⟨g6, ⟨L1, obb, g3, g4⟩, fun df K Q hdo hq => ?_⟩
        intro m γ w a hi hl hs hdf
        rw [hops]
        refine wpIn_region_lit ?_
        have hst : df = none ∨ (l1 ++ o :: l2).all Oper.still = true := hdo.imp (fun h => h) fun e => by rw [← g0]; exact e
        have hst1 : df = none ∨ l1.all Oper.still = true := hst.imp (fun h => h) fun e => by rw [List.all_append, Bool.and_eq_true] at e; exact e.1
        have hst2 : df = none ∨ Oper.still o = true := hst.imp (fun h => h) fun e => by rw [List.all_append, Bool.and_eq_true, List.all_cons, Bool.and_eq_true] at e; exact e.2.1
        have hgo : wpListIn (wideR df) 0 P ops.toList.toArray (Post false a.defers K [] n Q m γ w) (l1 ++ o :: l2) a w := by
         refine ev_sound_appI g1 g2 (o :: l2) hst1 (Q := Post false a.defers K [] n Q m γ w) hi hl hs (fun m' γ' w' a' ht hi' hl' hs' hd' hk' => ?_)
         obtain ⟨hw, hwp⟩ := g5 m' γ' w' a' (wpListIn (wideR df) 0 P ops.toList.toArray (Post false a.defers K [] n Q m γ w) l2) (Post false a.defers K [] n Q m γ w) hi' hl' (fun m2 γ2 w2 v ht2 hle2 hi2 hv =>
           ⟨m2, γ2, L1, obb, .panic av, hq L1 obb g3 g4, ⟨v, rfl, hv⟩, ht.trans ht2, hi2, repLoc_all hl' hle2, hs', .of_eq hd', fun q g ho hg => hle2.gam q g (hk'.gam q g hg ho.2) ho.2⟩)
         unfold wpListIn
         rw [if_pos hw]
         exact wpIn_of_wp hst2 hwp
        rw [← g0] at hgo
        exact hgo
  obtain ⟨L0, ob0, hM0, hO0⟩ := hex
  exact ⟨(base L0 ob0 hM0 hO0).1, fun L ob hM hO => (base L ob hM hO).2⟩

/-! ### Code -/
/-- how a scope may be left, at most so many jumps within it to come -/
def jmp (P : Program) (c : Code) (Q : Exit → Act → World → Prop) : Nat → Exit → Act → World → Prop
  | 0, .goto _, _, _ => False
  | k + 1, .goto l, a, w => ∃ rest, findLabel c l = some rest ∧ rest.wp P (jmp P c Q k) a w
  | _, e, a, w => Q e a w
theorem wp_scope_jmp {c : Code} {Q : Exit → Act → World → Prop} {a : Act} {w : World} (k : Nat) (first : c.wp P (jmp P c Q k) a w) : (Code.scope c).wp P Q a w := by
  intro b items cs
  have hg : ∀ l rest, findLabel c l = some rest → gotoIn l (.inScope c :: items) = some (.code rest :: .inScope c :: items) := fun l rest hf => by simp [gotoIn, hf]
  have key : ∀ (k : Nat) (r : Code) (a : Act) (w : World), r.wp P (jmp P c Q k) a w → ∃ e a' w', Q e a' w' ∧ Arrives P (lone (b.at a (.code r :: .inScope c :: items)) cs w) b items cs e a' w' := by
    intro k
    induction k with
    | zero =>
      intro r a w hr
      obtain ⟨e, a₁, w₁, hq, harr⟩ := hr b (.inScope c :: items) cs
      cases e with
      | normal => exact ⟨.normal, a₁, w₁, hq, Steps.trans harr (.one step_inScope)⟩
      | exit id => exact ⟨.exit id, a₁, w₁, hq, fun k' hk => harr k' (by simp [exitTo, hk])⟩
      | goto l' => exact hq.elim
      | ret => exact ⟨_, a₁, w₁, hq, harr⟩
      | panic ch => exact ⟨_, a₁, w₁, hq, harr⟩
      | outgrown => exact ⟨_, a₁, w₁, hq, harr⟩
    | succ k ih =>
      intro r a w hr
      obtain ⟨e, a₁, w₁, hq, harr⟩ := hr b (.inScope c :: items) cs
      cases e with
      | normal => exact ⟨.normal, a₁, w₁, hq, Steps.trans harr (.one step_inScope)⟩
      | exit id => exact ⟨.exit id, a₁, w₁, hq, fun k' hk => harr k' (by simp [exitTo, hk])⟩
      | goto l' =>
        obtain ⟨rest, hf, hrest⟩ := hq
        obtain ⟨e₂, a₂, w₂, hq₂, harr₂⟩ := ih rest a₁ w₁ hrest
        exact ⟨e₂, a₂, w₂, hq₂, .of_steps (harr _ (hg l' rest hf)) harr₂⟩
      | ret => exact ⟨_, a₁, w₁, hq, harr⟩
      | panic ch => exact ⟨_, a₁, w₁, hq, harr⟩
      | outgrown => exact ⟨_, a₁, w₁, hq, harr⟩
  obtain ⟨e, a', w', hq, harr⟩ := key k c a w first
  exact ⟨e, a', w', hq, .of_steps (.one step_scope) harr⟩
def jmpA (P : Program) (n K : Nat) (kk : List Nat) (c : Code) (Q : APost) : Nat → APost
  | 0, .goto _, _, _ => False
  | k + 1, .goto l, L, ob => ∃ rest, findLabel c l = some rest ∧ (!rest.rf || c.rf) = true ∧ awp none P n K kk rest (jmpA P n K kk c Q k) L ob
  | _, x, L, ob => Q x L ob
theorem jmpA_of {K : Nat} {kk : List Nat} {c : Code} {Q : APost} {k : Nat} {x : AX} {L : Loc} {ob : List Ob} (hx : ∀ l, x ≠ .goto l) (h : Q x L ob) : jmpA P n K kk c Q k x L ob := by
  cases x with
  | goto l => exact absurd rfl (hx l)
  | _ => cases k <;> exact h
theorem awp_scope {K : Nat} {kk : List Nat} {c : Code} {Q : APost} {L : Loc} {ob : List Ob} (k : Nat) (h : awp none P n K kk c (jmpA P n K kk c Q k) L ob) : awp none P n K kk (.scope c) Q L ob := by
  intro m γ w a hi hl hs _
  refine wpIn_wide.2 (wp_scope_jmp k ?_)
  have key : ∀ (k : Nat) (r : Code), (!r.rf || c.rf) = true → ∀ (L : Loc) (ob : List Ob), awp none P n K kk r (jmpA P n K kk c Q k) L ob → ∀ m1 γ1 w1 a1, Trans m γ w m1 γ1 w1 → (∀ o g, kept K kk o → γ o = some g → γ1 o = some g) → Marks c.rf a.defers w a1.defers γ1 w1 → Inv m1 γ1 ob w1 → RepLoc m1 γ1 a1 L → a1.tmps.size = n →
      r.wp P (jmp P c (Post c.rf a.defers K kk n Q m γ w) k) a1 w1 := by
    intro k
    induction k with
    | zero =>
      intro r hrf L ob hr m1 γ1 w1 a1 ht hk hm hi hl hs
      refine wp_mono (wpIn_wide.1 (hr m1 γ1 w1 a1 hi hl hs trivial)) ?_
      rintro e a2 w2 hp
      have hp' := Post.trans (rf := c.rf) (rf1 := c.rf) (rf2 := r.rf) (ds0 := a.defers) ht hk hm (fun e => e) (fun e => by rw [e] at hrf; simpa using hrf) hp
      obtain ⟨m2, γ2, L2, ob2, ax, h1, h2, h3⟩ := hp'
      cases e with
      | goto l => cases ax <;> first | exact h2.elim | exact h1.elim
      | normal => cases ax <;> first | exact h2.elim | exact ⟨m2, γ2, L2, ob2, _, h1, h2, h3⟩
      | ret => cases ax <;> first | exact h2.elim | exact ⟨m2, γ2, L2, ob2, _, h1, h2, h3⟩
      | exit => cases ax <;> first | exact h2.elim | exact ⟨m2, γ2, L2, ob2, _, h1, h2, h3⟩
      | panic => cases ax <;> first | exact h2.elim | exact ⟨m2, γ2, L2, ob2, _, h1, h2, h3⟩
      | outgrown => cases ax <;> exact h2.elim
    | succ k ih =>
      intro r hrf L ob hr m1 γ1 w1 a1 ht hk hm hi hl hs
      refine wp_mono (wpIn_wide.1 (hr m1 γ1 w1 a1 hi hl hs trivial)) ?_
      rintro e a2 w2 hp
      have hp' := Post.trans (rf := c.rf) (rf1 := c.rf) (rf2 := r.rf) (ds0 := a.defers) ht hk hm (fun e => e) (fun e => by rw [e] at hrf; simpa using hrf) hp
      obtain ⟨m2, γ2, L2, ob2, ax, h1, h2, h3⟩ := hp'
      cases e with
      | goto l =>
        cases ax <;> first | exact h2.elim | skip
        obtain ⟨rest, q1, q2, q3⟩ := h1
        obtain ⟨h3, h4, h5, h6, h7, h8⟩ := h3
        simp only [ExRep] at h2
        subst h2
        exact ⟨rest, q1, ih rest q2 L2 ob2 q3 m2 γ2 w2 a2 h3 h8 h7 h4 h5 h6⟩
      | normal => cases ax <;> first | exact h2.elim | exact ⟨m2, γ2, L2, ob2, _, h1, h2, h3⟩
      | ret => cases ax <;> first | exact h2.elim | exact ⟨m2, γ2, L2, ob2, _, h1, h2, h3⟩
      | exit => cases ax <;> first | exact h2.elim | exact ⟨m2, γ2, L2, ob2, _, h1, h2, h3⟩
      | panic => cases ax <;> first | exact h2.elim | exact ⟨m2, γ2, L2, ob2, _, h1, h2, h3⟩
      | outgrown => cases ax <;> exact h2.elim
  exact key k c (by cases c.rf <;> rfl) L ob h m γ w a (Trans.refl _ _ _) (fun _ _ _ h => h) (Marks.none _ _ _ _ _) hi hl hs
def RunsI (P : Program) (n : Nat) (c : Code) (M : Tri AV) (O : Tri Ob) (N : Nat) (tm : TM) (x : AX) (M' : Tri AV) (O' : Tri Ob) (N' : Nat) (tm' : TM) : Prop := Ext tm tm' ∧ (allT tm'.ok = true → (∃ L ob, RelM M L ∧ RelO O N ob) → Runs P n c M O N tm x M' O' N' tm')
theorem runs_next {c : Code} {M : Tri AV} {O : Tri Ob} {N : Nat} {tm : TM} {x : AX} {M' : Tri AV} {O' : Tri Ob} {N' : Nat} {tm' : TM} (h : Runs P n c M O N tm x M' O' N' tm') (hex : ∃ L ob, RelM M L ∧ RelO O N ob) : ∃ L ob, RelM M' L ∧ RelO O' N' ob := by
  obtain ⟨L, ob, h1, h2⟩ := hex
  exact (h.2 L ob h1 h2).1
theorem runs_still {c : Code} {M : Tri AV} {O : Tri Ob} {N : Nat} {tm : TM} {x : AX} (h : ∀ df K Q L ob, Q x L ob → awp df P n K [] c Q L ob) : Runs P n c M O N tm x M O N tm :=
  ⟨Kept.refl _ _, fun L ob hM hO => ⟨⟨L, ob, hM, hO⟩, fun df K Q _ hq => h df K Q L ob (hq L ob hM hO)⟩⟩
theorem loopN_succ (step : Tri AV → Tri Ob → Nat → TM → RX) (k : Nat) (M : Tri AV) (O : Tri Ob) (N : Nat) (tm : TM) : loopN step (k + 1) M O N tm = seqR (loopN step k) (step M O N tm) := rfl
theorem regR_ext (hcf : CallOk P callf) (ops : List Oper) (draw : Bool) {M : Tri AV} {O : Tri Ob} {N : Nat} {tm : TM} {x : AX} {M' : Tri AV} {O' : Tri Ob} {N' : Nat} {tm' : TM} (h : regR ops draw (runOps P n callf pu ops ops M O N tm) = .ok x M' O' N' tm') : Ext tm tm' := by
  have hext := runOps_ext (pu := pu) (n := n) hcf ops ops (M := M) (O := O) (N := N) (tm := tm)
  cases hr : runOps P n callf pu ops ops M O N tm with
  | fail => rw [hr] at h; cases h
  | ok recs M2 O2 N2 t2 =>
    rw [hr] at h
    cases draw with
    | false => cases h; exact hext.1 hr
    | true =>
      simp only [regR] at h
      cases hd : drawOk ops recs with
      | false => rw [hd] at h; cases h
      | true => rw [hd] at h; cases h; exact hext.1 hr
  | pan av M2 O2 N2 t2 =>
    rw [hr] at h
    cases draw with
    | false => cases h; exact hext.2 hr
    | true => cases h
theorem loop_ok {c : Code} {step : Tri AV → Tri Ob → Nat → TM → RX} (hstep : ∀ {M O N tm x M' O' N' tm'}, step M O N tm = .ok x M' O' N' tm' → RunsI P n c M O N tm x M' O' N' tm') {x : AX} {M' : Tri AV} {O' : Tri Ob} {N' : Nat} {tm' : TM} : ∀ (lf : Nat) {M : Tri AV} {O : Tri Ob} {N : Nat} {tm : TM},
    loopN step lf M O N tm = .ok x M' O' N' tm' → RunsI P n (.loop c) M O N tm x M' O' N' tm' := by
  have ext : ∀ (lf : Nat) {M : Tri AV} {O : Tri Ob} {N : Nat} {tm : TM}, loopN step lf M O N tm = .ok x M' O' N' tm' → Ext tm tm' := by
    intro lf
    induction lf with
    | zero => intro M O N tm h; cases h
    | succ k ih =>
      intro M O N tm h
      rw [loopN_succ] at h
      cases hs : step M O N tm with
      | fail => rw [hs] at h; cases h
      | ok x1 M1 O1 N1 t1 =>
        rw [hs] at h
        have he := (hstep hs).1
        cases x1 with
        | normal => exact he.trans (ih h)
        | _ => cases h; exact he
  have first : ∀ (lf : Nat) {M : Tri AV} {O : Tri Ob} {N : Nat} {tm : TM}, loopN step lf M O N tm = .ok x M' O' N' tm' → allT tm'.ok = true → (∃ L ob, RelM M L ∧ RelO O N ob) → Kept O O' tm tm' ∧ ∃ L' ob', RelM M' L' ∧ RelO O' N' ob' := by
    intro lf
    induction lf with
    | zero => intro M O N tm h _; cases h
    | succ k ih =>
      intro M O N tm h hok hex
      rw [loopN_succ] at h
      cases hs : step M O N tm with
      | fail => rw [hs] at h; cases h
      | ok x1 M1 O1 N1 t1 =>
        rw [hs] at h
        cases x1 with
        | normal =>
          simp only [seqR] at h
          have hr := (hstep hs).2 ((ext k h).ok hok) hex
          obtain ⟨k1, k2⟩ := ih h hok (runs_next hr hex)
          exact ⟨hr.1.trans k1, k2⟩
        | _ =>
          simp only [seqR, RX.ok.injEq] at h
          obtain ⟨rfl, rfl, rfl, rfl, rfl⟩ := h
          have hr := (hstep hs).2 hok hex
          exact ⟨hr.1, runs_next hr hex⟩
  intro lf M O N tm h
  refine ⟨ext lf h, fun hok hex => ?_⟩
  refine ⟨(first lf h hok hex).1, fun L ob hM hO => ⟨(first lf h hok ⟨L, ob, hM, hO⟩).2, fun df K Q hdo hq => ?_⟩⟩
  refine awp_loop (ι := Nat × Loc × List Ob) (fun i => i.2.1) (fun i => i.2.2) (fun i => ∃ M O N tm, RelM M i.2.1 ∧ RelO O N i.2.2 ∧ loopN step i.1 M O N tm = .ok x M' O' N' tm') (fun i => i.1) (lf, L, ob) ⟨M, O, N, tm, hM, hO, h⟩ (Sub.refl _) rfl ?_
  rintro ⟨k, Li, obi⟩ ⟨Mi, Oi, Ni, ti, hMi, hOi, hi⟩
  cases k with
  | zero => cases hi
  | succ k =>
    rw [loopN_succ] at hi
    cases hs : step Mi Oi Ni ti with
    | fail => rw [hs] at hi; cases hi
    | ok x1 M1 O1 N1 t1 =>
      rw [hs] at hi
      cases x1 with
      | normal =>
        simp only [seqR] at hi
        have hr := (hstep hs).2 ((ext k hi).ok hok) ⟨Li, obi, hMi, hOi⟩
        refine ((hr.2 Li obi hMi hOi).2 df K _ hdo) fun L' ob' hM' hO' => ?_
        exact ⟨(k, L', ob'), ⟨M1, O1, N1, t1, hM', hO', hi⟩, Nat.lt_succ_self k, Sub.refl _, rfl⟩
      | _ =>
        simp only [seqR, RX.ok.injEq] at hi
        obtain ⟨rfl, rfl, rfl, rfl, rfl⟩ := hi
        have hr := (hstep hs).2 hok ⟨Li, obi, hMi, hOi⟩
        exact ((hr.2 Li obi hMi hOi).2 df K _ hdo) fun L' ob' hM' hO' => hq L' ob' hM' hO'
/-! ### Ranges over functions -/
theorem inv_alloc0 {m : Mem} {γ : Gam} {ob : List Ob} {w : World} (hi : Inv m γ ob w) (O : Obj) : Inv m γ ob (w.alloc O) :=
  ⟨mem_alloc hi O, fun o X hX => obAt_le0 (hi.obj o X hX) (Le.refl _ _ _) (fun b C hb => alloc_old w O (hi.dom o b C hb)) (fun _ _ _ _ h => h), hi.sep, fun o b C h => by rw [World.size_alloc]; exact Nat.lt_succ_of_lt (hi.dom o b C h), hi.len⟩
theorem inv_lp {m : Mem} {γ : Gam} {ob : List Ob} {w : World} (hi : Inv m γ ob w) {o l C : Nat} {Z : Ob} (ho : ob[o]? = some Z) (hZ : Z ≠ .dead) (hg : γ o = some (some (l, C))) {r : Loop} (hr : w.heap[l]? = some (.loop r)) (r' : Loop) {X : Ob} (hX : ObAt m γ (w.putObj l (.loop r')) o X) :
    Inv m γ (ob.set o X) (w.putObj l (.loop r')) ∧ Trans m γ w m γ (w.putObj l (.loop r')) := by
  have hoth : ∀ k, k ≠ l → (w.putObj l (.loop r')).heap[k]? = w.heap[k]? := fun k hk => World.putObj_heap_other hk
  have hlo : live ob o := ⟨Z, ho, hZ⟩
  have hlt := (List.getElem?_eq_some_iff.1 ho).1
  have hlv : ∀ i, live (ob.set o X) i → live ob i := by
    rintro i ⟨Y, hY, hne⟩
    by_cases hio : i = o
    · rw [hio]; exact hlo
    · rw [List.getElem?_set_ne (Ne.symm hio)] at hY
      exact ⟨Y, hY, hne⟩
  refine ⟨⟨fun a x hx => ?_, fun i Y hY => ?_, fun i j b C1 C2 l1 l2 => hi.sep i j b C1 C2 (hlv i l1) (hlv j l2), fun i b C1 h => by rw [World.putObj_size]; exact hi.dom i b C1 h, fun i h => by rw [List.length_set]; exact hi.len i h⟩,
    ⟨fun _ _ h => h, fun _ _ h => .inl h, fun _ _ h => h, rfl, rfl, rfl, by rw [World.putObj_size]; exact Nat.le_refl _, fun k _ hn => hoth k fun e => hn ⟨o, C, e ▸ hg⟩⟩⟩
  · have hc := hi.mem a x hx
    have hne : a.block ≠ l := by
      intro e
      unfold World.cell? at hc
      rw [e, hr] at hc
      simp at hc
    unfold World.cell? at hc ⊢
    rw [hoth _ hne]
    exact hc
  · by_cases hio : i = o
    · subst hio
      rw [List.getElem?_set_self hlt] at hY
      cases hY
      exact hX
    · rw [List.getElem?_set_ne (Ne.symm hio)] at hY
      by_cases hYd : Y = .dead
      · subst hYd; trivial
      · exact obAt_le0 (hi.obj i Y hY) (Le.refl _ _ _) (fun b C1 hb => hoth b fun e => hio (hi.sep i o b C1 C ⟨Y, hY, hYd⟩ hlo hb (e ▸ hg))) (fun _ _ _ _ h => h)
theorem awp_range {K : Nat} {g : Operand} {ps : Array Tmp} {a b : Code} {Q : APost} {L : Loc} {ob ob1 : List Ob} {f : FuncId} {cs vs : List AV} {ts : List Nat} {r : AV} {k' : YCode} {ts' : List Nat} {vs' : List AV} (hg : aeval L g = some (.fn (.func f) [] cs))
    (hlen : ts.length = vs.length) (hts : ∀ (i t : Nat) (c : AV), ts[i]? = some t → vs[i]? = some c → t < n ∧ lk L t = some c) (hc : ARet P f (.yl ob.length :: cs) (ob ++ [.lp false ⟨n, ps, a, b, none⟩ ts vs]) [] r ob1) (h1 : ob1[ob.length]? = some (.lp false k' ts' vs'))
    {x : AX} (hx : jumpX k'.jump = some x) (hq : Q x L (ob1.set ob.length .dead)) : awp none P n K [] (.rangeFunc g ps a b) Q L ob := by
  intro m γ w act hi hl hs _
  obtain ⟨⟨fn0, hf0, hname, hb0⟩, hc⟩ := hc
  have hgr := rep_eval hl hg
  simp only [Rep, RepVals] at hgr
  obtain ⟨xs0, ys, eg, rfl, rc⟩ := hgr
  refine wpIn_rangeFunc (F := wideR none) fun fn _ => ?_
  have e2 : ¬ fn0.name = "runtime.NumGoroutine" := by simpa using hname
  have e3 : ¬ fn0.body = none := by intro e; simp [e] at hb0
  let rec0 : Loop := { state := .ready, pending := none, fn := fn, tmps := act.tmps, params := ps, assign := a, body := b, defers := w.heap.size }
  let w0 := w.alloc (.deferred (some []))
  let w1 := w0.alloc (.loop rec0)
  have hs0 : w0.heap.size = w.heap.size + 1 := World.size_alloc _ _
  have hs1 : w1.heap.size = w.heap.size + 2 := by show (w0.alloc _).heap.size = _; rw [World.size_alloc, hs0]
  have hi0 : Inv m γ ob w0 := inv_alloc0 hi _
  have hg1 : addG γ ob.length w0.heap.size 0 ob.length = some (some (w.heap.size + 1, 0)) := by simp [addG, hs0]
  have hle1 : Le m γ [] m (addG γ ob.length w0.heap.size 0) := le_addG hi0 _ _
  have hl1 : w1.heap[w.heap.size + 1]? = some (.loop rec0) := by
    have := World.alloc_heap_new w0 (.loop rec0)
    rwa [hs0] at this
  have hD1 : w1.heap[w.heap.size]? = some (.deferred (some [])) := by
    rw [show w1.heap[w.heap.size]? = w0.heap[w.heap.size]? from alloc_old w0 _ (by rw [hs0]; exact Nat.lt_succ_self _)]
    exact World.alloc_heap_new w _
  have hob : ObAt m (addG γ ob.length w0.heap.size 0) w1 ob.length (.lp false ⟨n, ps, a, b, none⟩ ts vs) := by
    refine ⟨w.heap.size + 1, rec0, ts.map (fun t => act.tmps.getD t undef), hg1, hl1, ⟨rfl, rfl, rfl, rfl, rfl, hs⟩, ?_, fun i t x h1 h2 => ?_, fun off => mem_fresh hi (by simp) off⟩
    · refine repVals_of_get (by simp [hlen]) fun i c x hci hxi => ?_
      rw [List.getElem?_map] at hxi
      cases hti : ts[i]? with
      | none => rw [hti] at hxi; cases hxi
      | some t =>
        rw [hti] at hxi
        simp only [Option.map_some, Option.some.injEq] at hxi
        subst hxi
        exact rep_le0 hle1 (hl t c (hts i t c hti hci).2).2
    · rw [List.getElem?_map, h1] at h2
      simp only [Option.map_some, Option.some.injEq] at h2
      obtain ⟨c, hci⟩ : ∃ c, vs[i]? = some c := ⟨_, List.getElem?_eq_getElem (by have := (List.getElem?_eq_some_iff.1 h1).1; omega)⟩
      exact ⟨(hts i t c h1 hci).1, h2⟩
  obtain ⟨hi1, ht1⟩ := inv_new hi0 (.loop rec0) 0 (.lp false ⟨n, ps, a, b, none⟩ ts vs) hob
  have hv : RepVals m (addG γ ob.length w0.heap.size 0) (.yl ob.length :: cs) (.func (.yield (w.heap.size + 1)) #[] #[] :: ys) := by
    simp only [RepVals, Rep]
    exact ⟨_, _, rfl, ⟨_, _, hg1, rfl⟩, reps_le0 hle1 rc⟩
  refine ⟨w.heap.size + 1, [mark w.heap.size], w1, { target := .fn (.func f) ys.toArray, args := #[.func (.yield (w.heap.size + 1)) #[] #[]] }, w1, f, (.func (.yield (w.heap.size + 1)) #[] #[] :: ys).toArray, w1, ?_, ?_, fun _ _ => trivial, ?_, fun h => (by cases h), ?_⟩
  · exact run_enterLoop_outer _ _ _ _ _
  · simp only [resolve, eg]
    simp [go_sem]
  · simp [invoke, callFunc, hf0, e2, e3]
  · refine callsInR.2 ((hc m _ w1 _ hi1 hv).mono ?_)
    rintro e w3 ⟨m3, γ3, r3, ob3, ⟨rfl, rfl⟩, p2, p3, p4, p5⟩
    cases e with
    | panicked chain => exact p2.elim
    | outgrown => exact p2.elim
    | returned v =>
      have hg3 : γ3 ob.length = some (some (w.heap.size + 1, 0)) := p5 _ _ rfl hg1
      obtain ⟨l3, r3, xs3, q1, q2, ⟨q3, q4, _⟩, _⟩ := p4.obj ob.length _ h1
      rw [hg3] at q1
      cases q1
      have hnb : r3.state ≠ .busy := by
        rw [q3]
        unfold YCode.state
        cases k'.jump <;> simp
      refine ⟨k'.jump, w3.putObj (w.heap.size + 1) (.loop { r3 with state := .exhausted }), ?_, ?_⟩
      · exact (run_endLoop (P := P) (w := w3) q2 hnb).trans (by rw [q4])
      · obtain ⟨hi4, ht4⟩ := inv_lp p4 h1 (by simp) hg3 q2 { r3 with state := .exhausted } (X := .dead) trivial
        have hin1 : ∀ j, InG (addG γ ob.length w0.heap.size 0) j → InG γ j ∨ j = w.heap.size + 1 := by
          rintro j ⟨o, C, ho⟩
          unfold addG at ho
          split at ho
          · simp at ho; right; omega
          · exact .inl ⟨o, C, ho⟩
        have ht0 : Trans m γ w m γ w0 := ⟨fun _ _ h => h, fun _ _ h => .inl h, fun _ _ h => h, rfl, rfl, rfl, by rw [hs0]; exact Nat.le_succ _, fun j hj _ => alloc_old w _ hj⟩
        have htall := ((ht0.trans ht1).trans p3).trans ht4
        have hDn : ¬ InG (addG γ ob.length w0.heap.size 0) w.heap.size := fun h => by
          rcases hin1 _ h with ⟨o, C, ho⟩ | h
          · exact absurd (hi.dom o _ C ho) (Nat.lt_irrefl _)
          · omega
        have hD3 : w3.heap[w.heap.size]? = some (.deferred (some [])) := (p3.blk _ (by rw [hs1]; omega) hDn).trans hD1
        have hkeep : ∀ o g, γ o = some g → γ3 o = some g := fun o g ho => p5 o g rfl (hle1.gam o g ho rfl)
        have fin : ∀ e, ExRep m3 γ3 e x → Post (Code.rangeFunc g ps a b).rf act.defers K [] n Q m γ w e { act with defers := [mark w.heap.size] ++ act.defers } (w3.putObj (w.heap.size + 1) (.loop { r3 with state := .exhausted })) := by
          intro e hex
          refine ⟨m3, γ3, L, ob3.set ob.length .dead, x, hq, hex, htall, hi4, repLoc_all hl ⟨htall.mem, fun o g ho _ => hkeep o g ho⟩, hs, ⟨[w.heap.size], rfl, .inl rfl, List.nodup_cons.2 ⟨by simp, List.nodup_nil⟩, fun D hD => ?_⟩, fun o g _ ho => hkeep o g ho⟩
          simp only [List.mem_cons, List.not_mem_nil, or_false] at hD
          subst hD
          refine ⟨Nat.le_refl _, ?_, (World.putObj_heap_other (by omega)).trans hD3, fun h => hDn (p3.gam _ (by rw [hs1]; omega) h)⟩
          rw [World.putObj_size]
          have := p3.size
          rw [hs1] at this
          omega
        generalize hjj : k'.jump = j at hx
        cases j with
        | none =>
          simp only [jumpX, Option.some.injEq] at hx
          subst hx
          exact fin .normal trivial
        | some c =>
          cases c <;> simp only [jumpX, Option.some.injEq] at hx <;> first | exact absurd hx (by simp) | skip
          · subst hx; exact wpIn_exit (fin _ rfl)
          · subst hx; exact wpIn_ret (fin _ trivial)
theorem range_ok (hcf : CallOk P callf) {g : Operand} {ps : Array Tmp} {a b : Code} {M : Tri AV} {O : Tri Ob} {N : Nat} {tm : TM} {x : AX} {M' : Tri AV} {O' : Tri Ob} {N' : Nat} {tm' : TM}
    (h : rngR n callf g ps a b M O N tm = .ok x M' O' N' tm') : RunsI P n (.rangeFunc g ps a b) M O N tm x M' O' N' tm' := by
  unfold rngR at h
  split at h
  rotate_left; · cases h
  rename_i f cs hg
  generalize hl : ((M.all 0 1 []).filter fun p => match M.get p.1 with
      | some _ => Nat.blt p.1 n
      | none => false) = l at h
  simp only at h
  cases hb : Nat.blt f yBase && (a.inR && b.inR) with
  | false => rw [hb] at h; cases h
  | true =>
    rw [hb] at h
    simp only [Bool.and_eq_true] at hb
    have hfb : f < yBase := Nat.le_of_ble_eq_true hb.1
    simp only [cond_true] at h
    generalize hvs : (l.map fun p => match M.get p.1 with
      | some av => av
      | none => AV.any) = vs at h
    cases hcall : callf f (.yl N :: cs) (O.set (.lp false ⟨n, ps, a, b, none⟩ (l.map (·.1)) vs) N) (N + 1) (tm.at (N + 1)) with
    | fail => rw [hcall] at h; cases h
    | pan av O1 N1 t1 => rw [hcall] at h; cases h
    | ret r O1 N1 t1 =>
      rw [hcall] at h
      simp only [rngE] at h
      split at h
      rotate_left; · cases h
      rename_i k' ts' vs' ho
      split at h
      rotate_left; · cases h
      rename_i x hx
      cases h
      obtain ⟨hext, hret⟩ := (hcf _ _ _ _ _).1 _ _ _ _ hcall
      refine ⟨hext, fun hok hex => ?_⟩
      have base : ∀ L ob, RelM M L → RelO O N ob → ∃ ob1, RelO O1 N' ob1 ∧ ob1[ob.length]? = some (.lp false k' ts' vs') ∧ (∀ i, tb t1.lo i = false → O1.get i = (O.set (.lp false ⟨n, ps, a, b, none⟩ (l.map (·.1)) vs) N).get i) ∧ ∀ K Q, Q x L (ob1.set ob.length .dead) → awp none P n K [] (.rangeFunc g ps a b) Q L ob := by
        intro L ob hM hO
        obtain rfl := hO.1
        have hpush : ∀ X : Ob, RelO (O.set X ob.length) (ob.length + 1) (ob ++ [X]) := fun X => hO.app (.push X)
        obtain ⟨ob1, h1, h2, h3⟩ := hret hok _ (hpush _)
        have hk1 : ob1[ob.length]? = some (.lp false k' ts' vs') := by rw [← h1.2]; exact ho
        refine ⟨ob1, h1, hk1, h3, fun K Q hq => ?_⟩
        refine awp_range (by rw [← hM.tev]; exact hg) (by rw [← hvs]; simp) (fun i t c e1 e2 => ?_) (h2.1 hfb) hk1 hx hq
        rw [List.getElem?_map] at e1
        rw [← hvs, List.getElem?_map] at e2
        cases hli : l[i]? with
        | none => rw [hli] at e1; cases e1
        | some p =>
          rw [hli] at e1 e2
          simp only [Option.map_some, Option.some.injEq] at e1 e2
          subst e1
          have hm : p ∈ l := List.mem_of_getElem? hli
          rw [← hl] at hm
          have hp := (List.mem_filter.1 hm).2
          cases hMp : M.get p.1 with
          | none => rw [hMp] at hp; cases hp
          | some av =>
            rw [hMp] at hp e2
            simp only at hp e2
            subst e2
            exact ⟨Nat.le_of_ble_eq_true hp, by rw [← hM p.1]; exact hMp⟩
      have hset : ∀ ob ob1 : List Ob, RelO O1 N' ob1 → ob1[ob.length]? = some (.lp false k' ts' vs') → RelO (O1.set .dead ob.length) N' (ob1.set ob.length .dead) := by
        intro ob ob1 h1 h2
        have hlt := (List.getElem?_eq_some_iff.1 h2).1
        refine ⟨by rw [List.length_set]; exact h1.1, fun i => ?_⟩
        rw [tri_get_set, List.getElem?_set, h1.2]
        by_cases e : ob.length = i
        · subst e; simp [hlt]
        · simp [e]
      obtain ⟨L0, ob0, hM0, hO0⟩ := hex
      obtain ⟨ob1, h1, h2, h3, h4⟩ := base L0 ob0 hM0 hO0
      obtain rfl := hO0.1
      refine ⟨⟨fun i hi => (un_meet (un_low hi).1).1, fun i hi => ?_⟩, fun L ob hM hO => ?_⟩
      · have i1 := un_bit (un_low hi).2
        have i2 := (un_meet (un_low hi).1).2
        rw [tri_get_set, if_neg i1, h3 i i2, tri_get_set, if_neg i1]
      · obtain ⟨ob2, g1, g2, g3, g4⟩ := base L ob hM hO
        have hN := hO.1
        refine ⟨⟨L, ob2.set ob.length .dead, hM, ?_⟩, fun df K Q hd hq => ?_⟩
        · rw [← hN]; exact hset ob ob2 g1 g2
        · obtain rfl : df = none := hd.resolve_right (fun e => by cases e)
          exact g4 K Q (hq L (ob2.set ob.length .dead) hM (by rw [← hN]; exact hset ob ob2 g1 g2))
theorem scopeN_zero (run : Code → Tri AV → Tri Ob → Nat → TM → RX) (c : Code) (x : RX) : scopeN run c 0 x = noGo x := rfl
theorem scopeN_succ (run : Code → Tri AV → Tri Ob → Nat → TM → RX) (c : Code) (k : Nat) (x : RX) : scopeN run c (k + 1) x = jumpR run c (scopeN run c k) x := rfl
theorem scope_go {run : Code → Tri AV → Tri Ob → Nat → TM → RX} (hrun : ∀ {c : Code} {M : Tri AV} {O : Tri Ob} {N : Nat} {tm : TM} {x : AX} {M' : Tri AV} {O' : Tri Ob} {N' : Nat} {tm' : TM}, run c M O N tm = .ok x M' O' N' tm' → RunsI P n c M O N tm x M' O' N' tm') {c : Code} {x : AX} {M' : Tri AV} {O' : Tri Ob} {N' : Nat} {tm' : TM} : ∀ (k : Nat) {r : Code} {M : Tri AV} {O : Tri Ob} {N : Nat} {tm : TM} {y : RX},
    (∀ {x' M1 O1 N1 t1}, y = .ok x' M1 O1 N1 t1 → RunsI P n r M O N tm x' M1 O1 N1 t1) → scopeN run c k y = .ok x M' O' N' tm' → Ext tm tm' ∧ (allT tm'.ok = true → (∃ L ob, RelM M L ∧ RelO O N ob) → Kept O O' tm tm' ∧ ∀ L ob, RelM M L → RelO O N ob → (∃ L' ob', RelM M' L' ∧ RelO O' N' ob') ∧ ∀ K Q, (∀ L' ob', RelM M' L' → RelO O' N' ob' → Q x L' ob') → awp none P n K [] r (jmpA P n K [] c Q k) L ob) := by
  have fin : ∀ (k : Nat) {r : Code} {M : Tri AV} {O : Tri Ob} {N : Nat} {tm : TM}, (∀ l, x ≠ .goto l) → RunsI P n r M O N tm x M' O' N' tm' → Ext tm tm' ∧ (allT tm'.ok = true → (∃ L ob, RelM M L ∧ RelO O N ob) → Kept O O' tm tm' ∧ ∀ L ob, RelM M L → RelO O N ob → (∃ L' ob', RelM M' L' ∧ RelO O' N' ob') ∧ ∀ K Q, (∀ L' ob', RelM M' L' → RelO O' N' ob' → Q x L' ob') → awp none P n K [] r (jmpA P n K [] c Q k) L ob) := by
    intro k r M O N tm hx hr
    refine ⟨hr.1, fun hok hex => ⟨(hr.2 hok hex).1, fun L ob hM hO => ⟨((hr.2 hok hex).2 L ob hM hO).1, fun K Q hq => ?_⟩⟩⟩
    exact ((hr.2 hok hex).2 L ob hM hO).2 none K _ (.inl rfl) fun L' ob' hM' hO' => jmpA_of hx (hq L' ob' hM' hO')
  intro k
  induction k with
  | zero =>
    intro r M O N tm y hy h
    rw [scopeN_zero] at h
    cases y with
    | fail => cases h
    | ok x1 M1 O1 N1 t1 =>
      cases x1 with
      | goto l => cases h
      | _ => cases h; exact fin 0 (by simp) (hy rfl)
  | succ k ih =>
    intro r M O N tm y hy h
    rw [scopeN_succ] at h
    cases y with
    | fail => cases h
    | ok x1 M1 O1 N1 t1 =>
      cases x1 with
      | goto l =>
        simp only [jumpR] at h
        split at h
        rotate_left; · cases h
        rename_i rest hf
        cases hc : !rest.rf || c.rf with
        | false => rw [hc] at h; cases h
        | true =>
          rw [hc] at h
          simp only [cond_true] at h
          obtain ⟨e1, k1⟩ := hy rfl
          obtain ⟨e2, k2⟩ := ih (r := rest) (M := M1) (O := O1) (N := N1) (tm := t1) (fun h => hrun h) h
          refine ⟨e1.trans e2, fun hok hex => ?_⟩
          have r1 := k1 (e2.ok hok) hex
          have r2 := k2 hok (runs_next r1 hex)
          refine ⟨r1.1.trans r2.1, fun L ob hM hO => ?_⟩
          obtain ⟨⟨L1, ob1, a1, a2⟩, a3⟩ := r1.2 L ob hM hO
          refine ⟨(r2.2 L1 ob1 a1 a2).1, fun K Q hq => a3 none K _ (.inl rfl) fun L' ob' hM' hO' => ?_⟩
          exact ⟨rest, hf, hc, (r2.2 L' ob' hM' hO').2 K Q hq⟩
      | _ => cases h; exact fin (k + 1) (by simp) (hy rfl)
theorem scope_ok {run : Code → Tri AV → Tri Ob → Nat → TM → RX} (hrun : ∀ {c : Code} {M : Tri AV} {O : Tri Ob} {N : Nat} {tm : TM} {x : AX} {M' : Tri AV} {O' : Tri Ob} {N' : Nat} {tm' : TM}, run c M O N tm = .ok x M' O' N' tm' → RunsI P n c M O N tm x M' O' N' tm') {c : Code} (k : Nat) {x : AX} {M M' : Tri AV} {O O' : Tri Ob} {N N' : Nat} {tm tm' : TM} {y : RX}
    (hy : ∀ {x' M1 O1 N1 t1}, y = .ok x' M1 O1 N1 t1 → RunsI P n c M O N tm x' M1 O1 N1 t1) (h : scopeN run c k y = .ok x M' O' N' tm') : RunsI P n (.scope c) M O N tm x M' O' N' tm' := by
  obtain ⟨e1, k1⟩ := scope_go hrun (r := c) k hy h
  refine ⟨e1, fun hok hex => ?_⟩
  have h1 := k1 hok hex
  refine ⟨h1.1, fun L ob hM hO => ⟨(h1.2 L ob hM hO).1, fun df K Q hd hq => ?_⟩⟩
  obtain rfl : df = none := hd.resolve_right (fun e => by cases e)
  exact awp_scope k ((h1.2 L ob hM hO).2 K Q hq)
theorem runC_ok {run : Code → Tri AV → Tri Ob → Nat → TM → RX} (hrun : ∀ {c : Code} {M : Tri AV} {O : Tri Ob} {N : Nat} {tm : TM} {x : AX} {M' : Tri AV} {O' : Tri Ob} {N' : Nat} {tm' : TM}, run c M O N tm = .ok x M' O' N' tm' → RunsI P n c M O N tm x M' O' N' tm') (hcf : CallOk P callf) (hm : P.follows .mixedOrders = true) (lf : Nat) : ∀ (c : Code) {M : Tri AV} {O : Tri Ob} {N : Nat} {tm : TM} {x : AX} {M' : Tri AV} {O' : Tri Ob} {N' : Nat} {tm' : TM}, runC run P n callf pu lf c M O N tm = .ok x M' O' N' tm' → RunsI P n c M O N tm x M' O' N' tm'
  | .skip, M, O, N, tm, x, M', O', N', tm', h => by cases h; exact ⟨Ext.refl _, fun _ _ => runs_still fun df K Q L ob hq => awp_skip hq⟩
  | .label l, M, O, N, tm, x, M', O', N', tm', h => by cases h; exact ⟨Ext.refl _, fun _ _ => runs_still fun df K Q L ob hq => awp_label hq⟩
  | .ret, M, O, N, tm, x, M', O', N', tm', h => by cases h; exact ⟨Ext.refl _, fun _ _ => runs_still fun df K Q L ob hq => awp_ret hq⟩
  | .exit id, M, O, N, tm, x, M', O', N', tm', h => by cases h; exact ⟨Ext.refl _, fun _ _ => runs_still fun df K Q L ob hq => awp_exit hq⟩
  | .region id ops draw, M, O, N, tm, x, M', O', N', tm', h => ⟨regR_ext hcf ops.toList draw h, region_ok hcf hm id ops draw h⟩
  | .seq a b, M, O, N, tm, x, M', O', N', tm', h => by
    replace h : seqR (runC run P n callf pu lf b) (runC run P n callf pu lf a M O N tm) = .ok x M' O' N' tm' := h
    cases ha : runC run P n callf pu lf a M O N tm with
    | fail => rw [ha] at h; cases h
    | ok x1 M1 O1 N1 t1 =>
      rw [ha] at h
      obtain ⟨e1, k1⟩ := runC_ok hrun hcf hm lf a ha
      cases x1 with
      | normal =>
        obtain ⟨e2, k2⟩ := runC_ok hrun hcf hm lf b h
        refine ⟨e1.trans e2, fun hok hex => ?_⟩
        have h1 := k1 (e2.ok hok) hex
        have h2 := k2 hok (runs_next h1 hex)
        refine ⟨h1.1.trans h2.1, fun L ob hM hO => ?_⟩
        obtain ⟨⟨L1, ob1, q1, q2⟩, q3⟩ := h1.2 L ob hM hO
        exact ⟨(h2.2 L1 ob1 q1 q2).1, fun df K Q hd hq => awp_seq (q3 df K _ (hd.imp (fun h => h) fun e => by simp only [Code.inR, Bool.and_eq_true] at e; exact e.1) fun L' ob' hM' hO' => (h2.2 L' ob' hM' hO').2 df K Q (hd.imp (fun h => h) fun e => by simp only [Code.inR, Bool.and_eq_true] at e; exact e.2) hq)⟩
      | _ =>
        cases h
        refine ⟨e1, fun hok hex => ?_⟩
        have h1 := k1 hok hex
        exact ⟨h1.1, fun L ob hM hO => ⟨(h1.2 L ob hM hO).1, fun df K Q hd hq => awp_seq ((h1.2 L ob hM hO).2 df K _ (hd.imp (fun h => h) fun e => by simp only [Code.inR, Bool.and_eq_true] at e; exact e.1) fun L' ob' hM' hO' => hq L' ob' hM' hO')⟩⟩
  | .cond c a b, M, O, N, tm, x, M', O', N', tm', h => by
    replace h : condR (runC run P n callf pu lf a) (runC run P n callf pu lf b) M O N tm (tev M c) = .ok x M' O' N' tm' := h
    have hev : ∀ L, RelM M L → aeval L c = tev M c := fun L hM => by rw [hM.tev]
    unfold condR at h
    split at h
    · rename_i hc
      obtain ⟨e1, k1⟩ := runC_ok hrun hcf hm lf a h
      refine ⟨e1, fun hok hex => ?_⟩
      have h1 := k1 hok hex
      exact ⟨h1.1, fun L ob hM hO => ⟨(h1.2 L ob hM hO).1, fun df K Q hd hq => awp_cond ((hev L hM).trans hc) (fun _ => (h1.2 L ob hM hO).2 df K Q (hd.imp (fun h => h) fun e => by simp only [Code.inR, Bool.and_eq_true] at e; exact e.1) hq) (fun e => by cases e)⟩⟩
    · rename_i hc
      obtain ⟨e1, k1⟩ := runC_ok hrun hcf hm lf b h
      refine ⟨e1, fun hok hex => ?_⟩
      have h1 := k1 hok hex
      exact ⟨h1.1, fun L ob hM hO => ⟨(h1.2 L ob hM hO).1, fun df K Q hd hq => awp_cond ((hev L hM).trans hc) (fun e => by cases e) (fun _ => (h1.2 L ob hM hO).2 df K Q (hd.imp (fun h => h) fun e => by simp only [Code.inR, Bool.and_eq_true] at e; exact e.2) hq)⟩⟩
    · cases h
  | .block id c, M, O, N, tm, x, M', O', N', tm', h => by
    replace h : blockR id (runC run P n callf pu lf c M O N tm) = .ok x M' O' N' tm' := h
    cases hc : runC run P n callf pu lf c M O N tm with
    | fail => rw [hc] at h; cases h
    | ok x1 M1 O1 N1 t1 =>
      rw [hc] at h
      obtain ⟨e1, k1⟩ := runC_ok hrun hcf hm lf c hc
      cases x1 with
      | exit j =>
        simp only [blockR] at h
        cases hj : Nat.beq j id with
        | true =>
          rw [hj] at h
          have := Nat.eq_of_beq_eq_true hj
          subst this
          simp only [cond_true, RX.ok.injEq] at h
          obtain ⟨rfl, rfl, rfl, rfl, rfl⟩ := h
          refine ⟨e1, fun hok hex => ?_⟩
          have h1 := k1 hok hex
          exact ⟨h1.1, fun L ob hM hO => ⟨(h1.2 L ob hM hO).1, fun df K Q hd hq => awp_block ((h1.2 L ob hM hO).2 df K _ (hd.imp (fun h => h) fun e => e) fun L' ob' hM' hO' => by simpa [blockP] using hq L' ob' hM' hO')⟩⟩
        | false =>
          rw [hj] at h
          have hne := Nat.ne_of_beq_eq_false hj
          simp only [cond_false, RX.ok.injEq] at h
          obtain ⟨rfl, rfl, rfl, rfl, rfl⟩ := h
          refine ⟨e1, fun hok hex => ?_⟩
          have h1 := k1 hok hex
          exact ⟨h1.1, fun L ob hM hO => ⟨(h1.2 L ob hM hO).1, fun df K Q hd hq => awp_block ((h1.2 L ob hM hO).2 df K _ (hd.imp (fun h => h) fun e => e) fun L' ob' hM' hO' => by simpa [blockP, hne] using hq L' ob' hM' hO')⟩⟩
      | _ =>
        cases h
        refine ⟨e1, fun hok hex => ?_⟩
        have h1 := k1 hok hex
        exact ⟨h1.1, fun L ob hM hO => ⟨(h1.2 L ob hM hO).1, fun df K Q hd hq => awp_block ((h1.2 L ob hM hO).2 df K _ (hd.imp (fun h => h) fun e => e) fun L' ob' hM' hO' => hq L' ob' hM' hO')⟩⟩
  | .loop c, M, O, N, tm, x, M', O', N', tm', h => loop_ok (fun h => runC_ok hrun hcf hm lf c h) lf h
  | .scope c, M, O, N, tm, x, M', O', N', tm', h => by
    replace h : scopeN run c lf (runC run P n callf pu lf c M O N tm) = .ok x M' O' N' tm' := h
    exact scope_ok hrun lf (fun h => runC_ok hrun hcf hm lf c h) h
  | .goto l, M, O, N, tm, x, M', O', N', tm', h => by cases h; exact ⟨Ext.refl _, fun _ _ => runs_still fun df K Q L ob hq => awp_goto hq⟩
  | .rangeFunc _ _ _ _, M, O, N, tm, x, M', O', N', tm', h => range_ok hcf h
  | .refuse _, M, O, N, tm, x, M', O', N', tm', h => by cases h
theorem runCode_ok (hcf : CallOk P callf) (hm : P.follows .mixedOrders = true) (lf : Nat) (c : Code) {M : Tri AV} {O : Tri Ob} {N : Nat} {tm : TM} {x : AX} {M' : Tri AV} {O' : Tri Ob} {N' : Nat} {tm' : TM} (h : runCode P n callf pu lf c M O N tm = .ok x M' O' N' tm') : RunsI P n c M O N tm x M' O' N' tm' :=
  runC_ok (fun h => runC_ok (fun h => by cases h) hcf hm lf _ h) hcf hm lf c h
end
end Go.Am
