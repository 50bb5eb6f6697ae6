/-
  An abstract machine, part C: a region whose operations Go may carry out in more than one order: what holds in the order of the text holds in each.
-/
import Derived.Test.YtobehholoenaiaaGreatDoorAmB
namespace Go.Am

def dstOut (d : Option Nat) (us : Loc) : Bool := match d with
  | none => true
  | some d => us.all fun p => !Nat.beq p.1 d
def usFree (ks : List Nat) (us : Loc) : Bool := match ks with
  | [] => true
  | _ :: _ => us.all fun p => p.2.free ks
def rFree (ks : List Nat) (r : AV) : Bool := match ks with
  | [] => true
  | _ :: _ => r.free ks
def dstNe : Option Nat → Option Nat → Bool
  | some a, some b => !Nat.beq a b
  | _, _ => true
def kindOk : Kd → Kd → Bool
  | .pure, _ => true
  | _, .pure => true
  | .read, .read => true
  | .read, .rd _ _ => true
  | .rd _ _, .read => true
  | .rd _ _, .rd _ _ => true
  | .st o _ _, .st k _ _ => !Nat.beq o k
  | .st o _ _, .rd k _ => !Nat.beq o k
  | .rd o _, .st k _ _ => !Nat.beq o k
  | .from N, .rd k _ => Nat.blt k N
  | .rd k _, .from N => Nat.blt k N
  | .chg t, .rd k _ => !tb t k
  | .rd k _, .chg t => !tb t k
  | _, _ => false
/-- May b, which stands behind a, go ahead of it? -/
def swapOk (a b : Rec) : Bool :=
  kindOk a.kind b.kind && dstOut a.dst b.us && dstOut b.dst a.us && dstNe a.dst b.dst && usFree b.ks a.us && rFree a.ks b.r

theorem lk_mem {L : Loc} {t : Nat} {av : AV} (h : lk L t = some av) : (t, av) ∈ L := by
  induction L with
  | nil => simp [lk] at h
  | cons p L ih =>
    obtain ⟨s, b⟩ := p
    rw [lk_cons] at h
    split at h
    · rename_i hs; subst hs; cases h; simp
    · exact List.mem_cons_of_mem _ (ih h)
theorem dstOut_ne {d : Nat} {us : Loc} (h : dstOut (some d) us = true) {t : Nat} {av : AV} (hl : lk us t = some av) : t ≠ d := by
  simp only [dstOut, List.all_eq_true] at h
  have := h _ (lk_mem hl)
  intro e; subst e
  simp at this
theorem usFree_of {ks : List Nat} {us : Loc} (h : usFree ks us = true) {t : Nat} {av : AV} (hl : lk us t = some av) : av.free ks = true := by
  cases ks with
  | nil => exact AV.free_nil av
  | cons k ks =>
    simp only [usFree, List.all_eq_true] at h
    exact h _ (lk_mem hl)
theorem rFree_of {ks : List Nat} {r : AV} (h : rFree ks r = true) : r.free ks = true := by
  cases ks with
  | nil => exact AV.free_nil r
  | cons k ks => simpa [rFree] using h

theorem lk_upd (L : Loc) (rc : Rec) (t : Nat) : lk (upd L rc) t = if rc.dst = some t then some rc.r else (lk L t).map fun av => cond (av.free rc.ks) av .any := by
  have hk : lk (killA rc.ks L) t = (lk L t).map fun av => cond (av.free rc.ks) av .any := by
    cases hks : rc.ks with
    | nil =>
      simp only [AV.free_nil, cond_true, killA]
      cases lk L t <;> rfl
    | cons k ks => simp only [killA]; rw [lk_killL]
  unfold upd updL
  cases hd : rc.dst with
  | none => simpa using hk
  | some d =>
    simp only
    rw [lk_cons, hk]
    simp
theorem upd_mono {L L' : Loc} (h : Sub L L') (rc : Rec) : Sub (upd L rc) (upd L' rc) := by
  intro t av e
  rw [lk_upd] at e ⊢
  split
  · rename_i hd; rw [if_pos hd] at e; exact .inl e
  · rename_i hd
    rw [if_neg hd] at e
    cases hl : lk L t with
    | none => simp [hl] at e
    | some b =>
      rw [hl] at e
      simp only [Option.map_some, Option.some.injEq] at e
      subst e
      rcases h t b hl with h1 | ⟨rfl, c, h1⟩
      · exact .inl (by rw [h1]; rfl)
      · refine .inr ⟨by simp [AV.free], _, by rw [h1]; rfl⟩

section
variable {P : Program} {n : Nat} {ops : Array Oper}
theorem Ev.mono {l : List Oper} {recs : List Rec} {L L2 : Loc} {ob ob2 : List Ob} (h : Ev P n ops l recs L ob L2 ob2) : ∀ {L' : Loc}, Sub L L' → ∃ L2', Sub L2 L2' ∧ Ev P n ops l recs L' ob L2' ob2 := by
  induction h with
  | nil L ob => exact fun {L'} hs => ⟨L', hs, .nil _ _⟩
  | @cons o rest rc recs L L2 ob ob' ob2 hus hdst hn hst h ih =>
    intro L' hs
    obtain ⟨L2', k1, k2⟩ := ih (upd_mono hs rc)
    exact ⟨L2', k1, .cons (hus.trans hs) hdst hn hst k2⟩

theorem swap_subs {a b : Rec} {L : Loc} (hs : swapOk a b = true) (hb : Sub b.us (upd L a)) (ha : Sub a.us L) :
    Sub b.us L ∧ Sub a.us (upd L b) ∧ Sub (upd (upd L a) b) (upd (upd L b) a) := by
  simp only [swapOk, Bool.and_eq_true] at hs
  obtain ⟨⟨⟨⟨⟨_, h1⟩, h2⟩, h3⟩, h4⟩, h5⟩ := hs
  refine ⟨fun t av e => ?_, fun t av e => ?_, fun t av e => ?_⟩
  · have hne : a.dst ≠ some t := by
      intro hd; rw [hd] at h1; exact dstOut_ne h1 e rfl
    rcases hb t av e with k | ⟨rfl, c, k⟩
    · rw [lk_upd, if_neg hne] at k
      cases hl : lk L t with
      | none => simp [hl] at k
      | some c =>
        rw [hl] at k
        simp only [Option.map_some, Option.some.injEq] at k
        cases hf : c.free a.ks with
        | true => rw [hf] at k; simp only [cond_true] at k; exact .inl (by rw [k])
        | false => rw [hf] at k; simp only [cond_false] at k; exact .inr ⟨k.symm, c, rfl⟩
    · rw [lk_upd, if_neg hne] at k
      cases hl : lk L t with
      | none => simp [hl] at k
      | some c => exact .inr ⟨rfl, c, rfl⟩
  · have hne : b.dst ≠ some t := by
      intro hd; rw [hd] at h2; exact dstOut_ne h2 e rfl
    have hf := usFree_of h4 e
    rcases ha t av e with k | ⟨rfl, c, k⟩
    · exact .inl (by rw [lk_upd, if_neg hne, k]; simp [hf])
    · exact .inr ⟨rfl, _, by rw [lk_upd, if_neg hne, k]; rfl⟩
  · rw [lk_upd, lk_upd] at e
    rw [lk_upd, lk_upd]
    by_cases hbt : b.dst = some t
    · rw [if_pos hbt] at e
      have hat : a.dst ≠ some t := by
        intro hat; rw [hat, hbt] at h3; simp [dstNe] at h3
      cases e
      rw [if_neg hat, if_pos hbt]
      exact .inl (by simp [rFree_of h5])
    · rw [if_neg hbt] at e
      rw [if_neg hbt]
      by_cases hat : a.dst = some t
      · rw [if_pos hat] at e ⊢
        simp only [Option.map_some, Option.some.injEq] at e
        cases hf : a.r.free b.ks with
        | true => rw [hf] at e; simp only [cond_true] at e; exact .inl (by rw [e])
        | false => rw [hf] at e; simp only [cond_false] at e; exact .inr ⟨e.symm, _, rfl⟩
      · rw [if_neg hat] at e ⊢
        cases hl : lk L t with
        | none => simp [hl] at e
        | some c =>
          rw [hl] at e
          simp only [Option.map_some, Option.some.injEq] at e ⊢
          cases hfa : c.free a.ks <;> cases hfb : c.free b.ks <;> simp_all [AV.free]

/-- One operation goes ahead of all those that stand ahead of it. -/
theorem bubble {o : Oper} {rc : Rec} {post : List Oper} {rpost : List Rec} : ∀ {pre : List Oper} {rpre : List Rec} {L L2 : Loc} {ob ob2 : List Ob}, pre.length = rpre.length →
    Ev P n ops (pre ++ o :: post) (rpre ++ rc :: rpost) L ob L2 ob2 → (∀ r ∈ rpre, swapOk r rc = true) →
    ∃ ob1 L2', Sub rc.us L ∧ rc.dst = o.dst ∧ (∀ d, o.dst = some d → d < n) ∧ StepK P ops o rc ob ob1 ∧ Sub L2 L2' ∧ Ev P n ops (pre ++ post) (rpre ++ rpost) (upd L rc) ob1 L2' ob2
  | [], [], L, L2, ob, ob2, _, h, _ => by
    cases h with
    | cons hus hdst hn hst h => exact ⟨_, L2, hus, hdst, hn, hst, Sub.refl _, h⟩
  | x :: pre, q :: rpre, L, L2, ob, ob2, hl, h, hsw => by
    rw [List.cons_append, List.cons_append] at h
    cases h with
    | @cons _ _ _ _ _ _ _ obx _ hus hdst hn hst h =>
      obtain ⟨ob1, L2', k1, k2, k3, k4, k5, k6⟩ := bubble (by simpa using hl) h (fun r hr => hsw r (List.mem_cons_of_mem _ hr))
      have hok := hsw q (by simp)
      obtain ⟨s1, s2, s3⟩ := swap_subs hok k1 hus
      obtain ⟨L2'', j1, j2⟩ := k6.mono s3
      have hkind : kindOk q.kind rc.kind = true := by
        have hk := hok
        simp only [swapOk, Bool.and_eq_true] at hk
        exact hk.1.1.1.1.1
      have key : ∃ ob', StepK P ops o rc ob ob' ∧ StepK P ops x q ob' ob1 := by
        unfold StepK at hst k4 ⊢
        cases hq : q.kind <;> cases hr : rc.kind <;> rw [hq, hr] at hkind <;> rw [hq] at hst <;> rw [hr] at k4 <;> simp only [kindOk, Bool.not_eq_true', reduceCtorEq] at hkind <;> simp only at hst k4 ⊢
        case pure.pure => obtain ⟨rfl, a1, a2⟩ := hst; obtain ⟨rfl, b1, b2⟩ := k4; exact ⟨_, ⟨rfl, b1, b2⟩, rfl, a1, a2⟩
        case pure.read => obtain ⟨rfl, a1, a2⟩ := hst; obtain ⟨rfl, b1, b2⟩ := k4; exact ⟨_, ⟨rfl, b1, b2⟩, rfl, a1, a2⟩
        case pure.write => obtain ⟨rfl, a1, a2⟩ := hst; exact ⟨_, k4, rfl, a1, a2⟩
        case pure.st => obtain ⟨rfl, a1, a2⟩ := hst; obtain ⟨b1, rfl, b2⟩ := k4; exact ⟨_, ⟨b1, rfl, b2⟩, rfl, a1, a2⟩
        case pure.rd => obtain ⟨rfl, a1, a2⟩ := hst; obtain ⟨b1, rfl, b2, b3⟩ := k4; exact ⟨_, ⟨b1, rfl, b2, b3⟩, rfl, a1, a2⟩
        case read.pure => obtain ⟨rfl, a1, a2⟩ := hst; obtain ⟨rfl, b1, b2⟩ := k4; exact ⟨_, ⟨rfl, b1, b2⟩, rfl, a1, a2⟩
        case read.read => obtain ⟨rfl, a1, a2⟩ := hst; obtain ⟨rfl, b1, b2⟩ := k4; exact ⟨_, ⟨rfl, b1, b2⟩, rfl, a1, a2⟩
        case read.rd => obtain ⟨rfl, a1, a2⟩ := hst; obtain ⟨b1, rfl, b2, b3⟩ := k4; exact ⟨_, ⟨b1, rfl, b2, b3⟩, rfl, a1, a2⟩
        case write.pure => obtain ⟨rfl, b1, b2⟩ := k4; exact ⟨_, ⟨rfl, b1, b2⟩, hst⟩
        case pure.from => obtain ⟨rfl, a1, a2⟩ := hst; exact ⟨_, k4, rfl, a1, a2⟩
        case from.pure => obtain ⟨rfl, b1, b2⟩ := k4; exact ⟨_, ⟨rfl, b1, b2⟩, hst⟩
        case pure.chg => obtain ⟨rfl, a1, a2⟩ := hst; exact ⟨_, k4, rfl, a1, a2⟩
        case chg.pure => obtain ⟨rfl, b1, b2⟩ := k4; exact ⟨_, ⟨rfl, b1, b2⟩, hst⟩
        case chg.rd t k old =>
          have hlt : tb t k = false := by simpa using hkind
          obtain ⟨a1, a3⟩ := hst
          obtain ⟨b1, rfl, b2, b3⟩ := k4
          exact ⟨_, ⟨(a1 k hlt).symm.trans b1, rfl, b2, b3⟩, a1, a3⟩
        case rd.chg k old t =>
          have hlt : tb t k = false := by simpa using hkind
          obtain ⟨a1, rfl, a2, a3⟩ := hst
          obtain ⟨b1, b3⟩ := k4
          exact ⟨_, ⟨b1, b3⟩, (b1 k hlt).trans a1, rfl, a2, a3⟩
        case pure.yl => obtain ⟨rfl, a1, a2⟩ := hst; exact ⟨_, k4, rfl, a1, a2⟩
        case yl.pure => obtain ⟨rfl, b1, b2⟩ := k4; exact ⟨_, ⟨rfl, b1, b2⟩, hst⟩
        case from.rd N k old =>
          have hlt : k < N := by simp [Nat.blt] at hkind; omega
          obtain ⟨a1, a3⟩ := hst
          obtain ⟨b1, rfl, b2, b3⟩ := k4
          exact ⟨_, ⟨(a1 k hlt).symm.trans b1, rfl, b2, b3⟩, a1, a3⟩
        case rd.from k old N =>
          have hlt : k < N := by simp [Nat.blt] at hkind; omega
          obtain ⟨a1, rfl, a2, a3⟩ := hst
          obtain ⟨b1, b3⟩ := k4
          exact ⟨_, ⟨b1, b3⟩, (b1 k hlt).trans a1, rfl, a2, a3⟩
        case st.pure => obtain ⟨rfl, b1, b2⟩ := k4; exact ⟨_, ⟨rfl, b1, b2⟩, hst⟩
        case rd.pure => obtain ⟨rfl, b1, b2⟩ := k4; exact ⟨_, ⟨rfl, b1, b2⟩, hst⟩
        case rd.read => obtain ⟨a1, rfl, a2, a3⟩ := hst; obtain ⟨rfl, b1, b2⟩ := k4; exact ⟨_, ⟨rfl, b1, b2⟩, a1, rfl, a2, a3⟩
        case rd.rd => obtain ⟨a1, rfl, a2, a3⟩ := hst; obtain ⟨b1, rfl, b2, b3⟩ := k4; exact ⟨_, ⟨b1, rfl, b2, b3⟩, a1, rfl, a2, a3⟩
        case st.st ka oa na kb ob' nb =>
          have hne : ka ≠ kb := fun e => by subst e; simp at hkind
          obtain ⟨a1, rfl, a3⟩ := hst
          obtain ⟨b1, rfl, b3⟩ := k4
          rw [List.getElem?_set_ne hne] at b1
          exact ⟨_, ⟨b1, rfl, b3⟩, by rw [List.getElem?_set_ne (fun e => hne e.symm)]; exact a1, List.set_comm _ _ hne, a3⟩
        case st.rd ka oa na kb ob' =>
          have hne : ka ≠ kb := fun e => by subst e; simp at hkind
          obtain ⟨a1, rfl, a3⟩ := hst
          obtain ⟨b1, rfl, b2, b3⟩ := k4
          rw [List.getElem?_set_ne hne] at b1
          exact ⟨_, ⟨b1, rfl, b2, b3⟩, a1, rfl, a3⟩
        case rd.st ka oa kb ob' nb =>
          have hne : ka ≠ kb := fun e => by subst e; simp at hkind
          obtain ⟨a1, rfl, a2, a3⟩ := hst
          obtain ⟨b1, rfl, b3⟩ := k4
          exact ⟨_, ⟨b1, rfl, b3⟩, by rw [List.getElem?_set_ne (fun e => hne e.symm)]; exact a1, rfl, a2, a3⟩
      obtain ⟨ob', g1, g2⟩ := key
      exact ⟨ob', L2'', s1, k2, k3, g1, k5.trans j1, .cons s2 hdst hn g2 j2⟩
end

/-- The bits of all operations ahead of which one can't go. -/
def edgeBits (acc : List Nat) : List Edge → Nat
  | [] => 0
  | e :: es => cond (Region.binds .any e) ((2 ^ e.on ||| acc.getD e.on 0) ||| edgeBits acc es) (edgeBits acc es)
def bitsFrom : List Oper → List Nat → List Nat
  | [], acc => acc
  | o :: l, acc => bitsFrom l (acc ++ [edgeBits acc o.after.toList])
def edgesBack : Nat → List Oper → Bool
  | _, [] => true
  | k, o :: l => (o.after.toList.all fun e => !Region.binds .any e || Nat.blt e.on k) && edgesBack (k + 1) l
def pairsOk1 (bits : List Nat) (j : Nat) (rj : Rec) : Nat → List Rec → Bool
  | _, [] => true
  | i, ri :: rs => ((bits.getD j 0).testBit i || swapOk ri rj) && pairsOk1 bits j rj (i + 1) rs
def pairsOk (bits : List Nat) : List Rec → Nat → List Rec → Bool
  | _, _, [] => true
  | before, j, rj :: rs => pairsOk1 bits j rj 0 before && pairsOk bits (before ++ [rj]) (j + 1) rs
def drawOk (l : List Oper) (recs : List Rec) : Bool := edgesBack 0 l && pairsOk (bitsFrom l []) [] 0 recs

theorem edgeBits_spec {acc : List Nat} {listed : Array Bool} {p : Nat} : ∀ {es : List Edge}, (edgeBits acc es).testBit p = true →
    (∀ e ∈ es, Region.binds .any e = true → listed.getD e.on false = true ∧ ((acc.getD e.on 0).testBit p = true → listed.getD p false = true)) → listed.getD p false = true
  | [], h, _ => by simp [edgeBits] at h
  | e :: es, h, hl => by
    simp only [edgeBits] at h
    cases hb : Region.binds .any e with
    | false =>
      rw [hb] at h
      exact edgeBits_spec (by simpa using h) (fun f hf => hl f (List.mem_cons_of_mem _ hf))
    | true =>
      rw [hb] at h
      simp only [cond_true, Nat.testBit_or, Bool.or_eq_true] at h
      obtain ⟨h1, h2⟩ := hl e (by simp) hb
      rcases h with (h | h) | h
      · rw [Nat.testBit_two_pow] at h
        have : e.on = p := by simpa using h
        rw [← this]; exact h1
      · exact h2 h
      · exact edgeBits_spec h (fun f hf => hl f (List.mem_cons_of_mem _ hf))

theorem bitsFrom_spec {listed : Array Bool} (ops : List Oper)
    (closed : ∀ (i : Nat) (o : Oper), ops[i]? = some o → listed.getD i false = true → ∀ e ∈ o.after.toList, Region.binds .any e = true → listed.getD e.on false = true) :
    ∀ (l : List Oper) (acc : List Nat), (∀ j, l[j]? = ops[acc.length + j]?) →
    (∀ q o, q < acc.length → ops[q]? = some o → (∀ e ∈ o.after.toList, Region.binds .any e = true → listed.getD e.on false = true) → ∀ p, (acc.getD q 0).testBit p = true → listed.getD p false = true) →
    (∀ q o, q < (bitsFrom l acc).length → ops[q]? = some o → (∀ e ∈ o.after.toList, Region.binds .any e = true → listed.getD e.on false = true) → ∀ p, ((bitsFrom l acc).getD q 0).testBit p = true → listed.getD p false = true)
  | [], acc, _, h => h
  | o :: l, acc, hl, h => by
    refine bitsFrom_spec ops closed l _ (fun j => ?_) ?_
    · have := hl (j + 1)
      simp only [List.getElem?_cons_succ] at this
      rw [this]
      congr 1
      simp only [List.length_append, List.length_cons, List.length_nil]
      omega
    · intro q o' hq ho' hall p hp
      by_cases hqa : q < acc.length
      · refine h q o' hqa ho' hall p ?_
        rw [List.getD_eq_getElem?_getD, List.getElem?_append_left hqa] at hp
        rw [List.getD_eq_getElem?_getD]; exact hp
      · have hqe : q = acc.length := by simp at hq; omega
        subst hqe
        have ho : o' = o := by
          have := hl 0
          simp only [Nat.add_zero, List.getElem?_cons_zero] at this
          rw [ho'] at this; cases this; rfl
        subst ho
        rw [List.getD_eq_getElem?_getD, List.getElem?_append_right (Nat.le_refl _)] at hp
        simp only [Nat.sub_self, List.getElem?_cons_zero, Option.getD_some] at hp
        refine edgeBits_spec hp fun e he hb => ⟨hall e he hb, fun hbit => ?_⟩
        by_cases hea : e.on < acc.length
        · cases hoe : ops[e.on]? with
          | none =>
            exfalso
            have h1 : ops.length ≤ e.on := List.getElem?_eq_none_iff.1 hoe
            have h2 : acc.length < ops.length := (List.getElem?_eq_some_iff.1 ho').1
            omega
          | some oe => exact h e.on oe hea hoe (fun f hf hbf => closed e.on oe hoe (hall e he hb) f hf hbf) p hbit
        · rw [List.getD_eq_getElem?_getD, List.getElem?_eq_none_iff.2 (by omega)] at hbit
          simp at hbit

theorem pairsOk1_spec {bits : List Nat} {j : Nat} {rj : Rec} : ∀ {i : Nat} {rs : List Rec}, pairsOk1 bits j rj i rs = true → ∀ p r, rs[p]? = some r → (bits.getD j 0).testBit (i + p) = true ∨ swapOk r rj = true
  | _, [], _, p, r, h => by simp at h
  | i, ri :: rs, h, p, r, hp => by
    simp only [pairsOk1, Bool.and_eq_true, Bool.or_eq_true] at h
    cases p with
    | zero => simp at hp; subst hp; simpa using h.1
    | succ p =>
      have := pairsOk1_spec h.2 p r (by simpa using hp)
      rw [show i + (p + 1) = i + 1 + p from by omega]; exact this
theorem pairsOk_spec {bits : List Nat} : ∀ {before : List Rec} {j : Nat} {rs : List Rec}, before.length = j → pairsOk bits before j rs = true →
    ∀ q r, rs[q]? = some r → ∀ p s, p < j + q → (before ++ rs)[p]? = some s → (bits.getD (j + q) 0).testBit p = true ∨ swapOk s r = true
  | _, _, [], _, _, q, r, h => by simp at h
  | before, j, rj :: rs, hlen, h, q, r, hq => by
    simp only [pairsOk, Bool.and_eq_true] at h
    intro p s hp hs
    cases q with
    | zero =>
      simp at hq; subst hq
      rw [List.getElem?_append_left (by omega)] at hs
      simpa using pairsOk1_spec h.1 p s hs
    | succ q =>
      have := pairsOk_spec (before := before ++ [rj]) (j := j + 1) (by simp [hlen]) h.2 q r (by simpa using hq) p s (by omega) (by simpa using hs)
      rw [show j + (q + 1) = j + 1 + q from by omega]; exact this

theorem edgesBack_spec : ∀ {l : List Oper} {k : Nat}, edgesBack k l = true → ∀ j o, l[j]? = some o → ∀ e ∈ o.after.toList, Region.binds .any e = true → e.on < k + j
  | [], _, _, j, o, h => by simp at h
  | x :: l, k, h, j, o, hj => by
    simp only [edgesBack, Bool.and_eq_true, List.all_eq_true, Bool.or_eq_true, Bool.not_eq_true'] at h
    cases j with
    | zero =>
      simp at hj; subst hj
      intro e he hb
      rcases h.1 e he with h1 | h1
      · rw [h1] at hb; cases hb
      · simp [Nat.blt] at h1; omega
    | succ j =>
      intro e he hb
      have := edgesBack_spec h.2 j o (by simpa using hj) e he hb
      omega

section
variable {P : Program} {n : Nat} {ops : Array Oper}
theorem nodup_filter_range (k : Nat) (f : Nat → Bool) : ((List.range k).filter f).Nodup := List.Pairwise.filter f List.nodup_range
theorem any_sound {ro : Option Nat} (hd : ro = none ∨ ops.toList.all Oper.still = true) {Q : Exit → Act → World → Prop} (bits : List Nat) (hback : edgesBack 0 ops.toList = true) (hbits : bits = bitsFrom ops.toList []) (rec : Nat → Rec)
    (hpairs : ∀ p q, p < q → q < ops.size → (bits.getD q 0).testBit p = true ∨ swapOk (rec p) (rec q) = true) :
    ∀ (fuel : Nat) (listed : Array Bool) (rem : List Nat) (L L2 : Loc) (ob ob2 : List Ob), rem.length = fuel → listed.size = ops.size → rem = (List.range ops.size).filter (fun i => !listed.getD i true) →
    (∀ (i : Nat) (o : Oper), ops.toList[i]? = some o → listed.getD i false = true → ∀ e ∈ o.after.toList, Region.binds .any e = true → listed.getD e.on false = true) →
    Ev P n ops (rem.map fun i => ops.getD i default) (rem.map rec) L ob L2 ob2 →
    ∀ (m : Mem) (γ : Gam) (w : World) (a : Act), Inv m γ ob w → RepLoc m γ a L → a.tmps.size = n →
    (∀ m' γ' w' a', Trans m γ w m' γ' w' → Inv m' γ' ob2 w' → RepLoc m' γ' a' L2 → a'.tmps.size = n → a'.defers = a.defers → (∀ o g, (∀ i ∈ rem, (rec i).ks.contains o = false) → γ o = some g → γ' o = some g) → Q .normal a' w') → wpAnyIn (wideR ro) 0 P .any ops Q fuel listed a w := by
  intro fuel
  induction fuel with
  | zero =>
    intro listed rem L L2 ob ob2 hlen hsz hrem hcl hev m γ w a hi hl hs hq
    have : rem = [] := List.eq_nil_of_length_eq_zero hlen
    subst this
    simp only [List.map_nil] at hev
    cases hev
    refine ⟨?_, hq m γ w a (Trans.refl _ _ _) hi hl hs rfl (fun _ _ _ h => h)⟩
    have h0 : ∀ i, i < ops.size → listed.getD i true = true := by
      intro i hlt
      have : i ∉ (List.range ops.size).filter (fun i => !listed.getD i true) := by rw [← hrem]; simp
      simpa [hlt] using this
    simp only [Region.ready, List.filter_eq_nil_iff]
    intro i hir
    rw [h0 i (by simpa using hir)]
    simp
  | succ fuel ih =>
    intro listed rem L L2 ob ob2 hlen hsz hrem hcl hev m γ w a hi hl hs hq
    have hmem : ∀ i, i ∈ rem ↔ i < ops.size ∧ listed.getD i true = false := by
      intro i; rw [hrem]; simp
    have hnd : rem.Nodup := by rw [hrem]; exact nodup_filter_range _ _
    have hsorted : rem.Pairwise (· < ·) := by rw [hrem]; exact List.Pairwise.filter _ List.pairwise_lt_range
    have hgetD : ∀ i, i < ops.size → listed.getD i true = listed.getD i false := by
      intro i hlt
      simp [Array.getD_eq_getD_getElem?, Array.getElem?_eq_getElem (show i < listed.size by omega)]
    have hedge : ∀ i o, ops[i]? = some o → ∀ e ∈ o.after.toList, Region.binds .any e = true → e.on < i := by
      intro i o ho e he hb
      have := edgesBack_spec hback i o (by simpa using ho) e he hb
      omega
    refine ⟨fun hnone => ?_, fun i hir => ?_⟩
    · exfalso
      match hr : rem with
      | [] => simp at hlen
      | i :: rest =>
        have hi0 := (hmem i).1 (by simp)
        obtain ⟨o, ho⟩ : ∃ o, ops[i]? = some o := ⟨ops[i]'hi0.1, Array.getElem?_eq_getElem hi0.1⟩
        have hin : i ∈ Region.ready .any ops listed := by
          simp only [Region.ready, List.mem_filter, List.mem_range, Bool.and_eq_true, Bool.not_eq_true']
          refine ⟨hi0.1, hi0.2, ?_⟩
          simp only [ho, Option.map_some, Option.getD_some, Array.all_eq_true', Bool.or_eq_true, Bool.not_eq_true']
          intro e he
          cases hb : Region.binds .any e with
          | false => exact .inl rfl
          | true =>
            right
            have hlt := hedge i o ho e (by simpa using he) hb
            rw [← hgetD e.on (by omega)]
            cases hle : listed.getD e.on true with
            | true => rfl
            | false =>
              have : e.on ∈ i :: rest := (hmem e.on).2 ⟨by omega, hle⟩
              simp only [List.mem_cons] at this
              rcases this with h1 | h1
              · omega
              · have := (List.pairwise_cons.1 hsorted).1 _ h1; omega
        rw [hnone] at hin
        cases hin
    · simp only [Region.ready, List.mem_filter, List.mem_range, Bool.and_eq_true, Bool.not_eq_true'] at hir
      obtain ⟨hlt, hunl, hready⟩ := hir
      have hin : i ∈ rem := (hmem i).2 ⟨hlt, hunl⟩
      obtain ⟨pre, post, hsplit⟩ := List.append_of_mem hin
      obtain ⟨o, ho⟩ : ∃ o, ops[i]? = some o := ⟨ops[i]'hlt, Array.getElem?_eq_getElem hlt⟩
      have hod : ops.getD i default = o := by simp [Array.getD_eq_getD_getElem?, ho]
      have hall : ∀ e ∈ o.after.toList, Region.binds .any e = true → listed.getD e.on false = true := by
        simp only [ho, Option.map_some, Option.getD_some, Array.all_eq_true', Bool.or_eq_true, Bool.not_eq_true'] at hready
        intro e he hb
        rcases hready e (by simpa using he) with h1 | h1
        · rw [hb] at h1; cases h1
        · exact h1
      have hpre : ∀ p ∈ pre, p < i ∧ listed.getD p true = false := by
        intro p hp
        have h1 : p ∈ rem := by rw [hsplit]; simp [hp]
        refine ⟨?_, ((hmem p).1 h1).2⟩
        rw [hsplit] at hsorted
        exact (List.pairwise_append.1 hsorted).2.2 p hp i (by simp)
      have hswap : ∀ r ∈ pre.map rec, swapOk r (rec i) = true := by
        intro r hr
        obtain ⟨p, hp, rfl⟩ := List.mem_map.1 hr
        obtain ⟨hpi, hpu⟩ := hpre p hp
        rcases hpairs p i hpi hlt with h1 | h1
        · exfalso
          subst hbits
          have hlenb : i < (bitsFrom ops.toList []).length := by
            have : ∀ (l : List Oper) (acc : List Nat), (bitsFrom l acc).length = acc.length + l.length := by
              intro l
              induction l with
              | nil => intro acc; simp [bitsFrom]
              | cons o l ihl => intro acc; simp only [bitsFrom]; rw [ihl]; simp; omega
            rw [this]; simpa using hlt
          have := bitsFrom_spec (listed := listed) ops.toList hcl ops.toList [] (fun j => by simp) (fun q o hq => by simp at hq) i o hlenb (by simpa using ho) hall p h1
          rw [← hgetD p (by omega)] at this
          rw [this] at hpu; cases hpu
        · exact h1
      rw [hsplit] at hev
      simp only [List.map_append, List.map_cons, hod] at hev
      obtain ⟨ob1, L2', k1, k2, k3, k4, k5, k6⟩ := bubble (by simp) hev hswap
      unfold wpOpIn
      simp only [ho]
      have hd1 : ro = none ∨ Oper.still o = true := hd.imp id fun e => List.all_eq_true.1 e o (Array.mem_toList_iff.2 (Array.mem_of_getElem? ho))
      refine gstep_in hd1 (k4.step m γ w a _ Q hi (hl.sub k1) fun m' γ' w' x ht hle hi' hx => ?_)
      have hrem' : pre ++ post = (List.range ops.size).filter (fun j => !(listed.setIfInBounds i true).getD j true) := by
        have e1 : (List.range ops.size).filter (fun j => !(listed.setIfInBounds i true).getD j true) = ((List.range ops.size).filter (fun j => !listed.getD j true)).filter (fun j => j != i) := by
          rw [List.filter_filter]
          refine List.filter_congr fun j hj => ?_
          have hjl : j < ops.size := by simpa using hj
          by_cases hji : j = i
          · subst hji
            simp [Array.getD_eq_getD_getElem?, Array.getElem?_setIfInBounds_self_of_lt (show j < listed.size by omega)]
          · rw [Array.getD_eq_getD_getElem?, Array.getElem?_setIfInBounds_ne (fun e => hji e.symm), ← Array.getD_eq_getD_getElem?]
            simp [hji]
        rw [e1, ← hrem, hsplit]
        rw [hsplit] at hnd
        have hnd' := List.nodup_append.1 hnd
        have hp1 : ∀ j ∈ pre, (j != i) = true := fun j hj => by
          have := hnd'.2.2 j hj i (by simp)
          simpa using this
        have hp2 : ∀ j ∈ post, (j != i) = true := fun j hj => by
          have := (List.nodup_cons.1 hnd'.2.1).1
          simp only [bne_iff_ne, ne_eq]
          intro e; subst e; exact this hj
        rw [List.filter_append, List.filter_eq_self.2 hp1, List.filter_cons]
        simp only [bne_self_eq_false, Bool.false_eq_true, if_false]
        rw [List.filter_eq_self.2 hp2]
      refine ih (listed.setIfInBounds i true) (pre ++ post) (upd L (rec i)) L2' ob1 ob2 ?_ (by simpa using hsz) hrem' ?_ ?_ m' γ' w' _ hi' (repLoc_put hl hle k2 (fun e he => by rw [hs]; exact k3 e he) hx) (by rw [size_put]; exact hs)
        fun m2 γ2 w2 a2 ht2 hi2 hl2 hs2 hd2 hk2 => hq m2 γ2 w2 a2 (ht.trans ht2) hi2 (hl2.sub k5) hs2 (hd2.trans (defers_put _ _ _))
          fun o g hks hg => hk2 o g (fun j hj => hks j (by rw [hsplit]; simp only [List.mem_append, List.mem_cons] at hj ⊢; exact hj.imp id .inr)) (hle.gam o g hg (hks i (by rw [hsplit]; simp)))
      · have := congrArg List.length hsplit
        simp only [List.length_append, List.length_cons] at this ⊢
        omega
      · intro j oj hoj hlj e he hb
        have hjl : j < ops.size := by
          have := (List.getElem?_eq_some_iff.1 hoj).1
          simpa using this
        have hset : ∀ q, q < ops.size → listed.getD q false = true → (listed.setIfInBounds i true).getD q false = true := by
          intro q hq hlq
          by_cases hqi : q = i
          · subst hqi; simp [Array.getD_eq_getD_getElem?, Array.getElem?_setIfInBounds_self_of_lt (show q < listed.size by omega)]
          · rw [Array.getD_eq_getD_getElem?, Array.getElem?_setIfInBounds_ne (fun e => hqi e.symm), ← Array.getD_eq_getD_getElem?]; exact hlq
        by_cases hji : j = i
        · subst hji
          have : oj = o := by
            have h1 : ops[j]? = some oj := by simpa using hoj
            rw [ho] at h1; cases h1; rfl
          subst this
          exact hset _ (by have := hedge j oj ho e he hb; omega) (hall e he hb)
        · rw [Array.getD_eq_getD_getElem?, Array.getElem?_setIfInBounds_ne (fun e => hji e.symm), ← Array.getD_eq_getD_getElem?] at hlj
          exact hset _ (by have := hedge j oj (by simpa using hoj) e he hb; omega) (hcl j oj hoj hlj e he hb)
      · simpa using k6

/-- In any order. -/
theorem region_any {id : Nat} {l : List Oper} {recs : List Rec} {L L2 : Loc} {ob ob2 : List Ob} {Q : Exit → Act → World → Prop} (hm : P.follows .mixedOrders = true) {ro : Option Nat} (hd : ro = none ∨ l.all Oper.still = true) (hev : Ev P n l.toArray l recs L ob L2 ob2)
    (hok : drawOk l recs = true) {m : Mem} {γ : Gam} {w : World} {a : Act} (hi : Inv m γ ob w) (hl : RepLoc m γ a L) (hs : a.tmps.size = n)
    (hq : ∀ m' γ' w' a', Trans m γ w m' γ' w' → Inv m' γ' ob2 w' → RepLoc m' γ' a' L2 → a'.tmps.size = n → a'.defers = a.defers → (∀ o g, (∀ rc ∈ recs, rc.ks.contains o = false) → γ o = some g → γ' o = some g) → Q .normal a' w') : (Code.region id l.toArray true).wpIn (wideR ro) 0 P Q a w := by
  have hlen : ∀ {l : List Oper} {recs : List Rec} {L L2 : Loc} {ob ob2 : List Ob} {ops : Array Oper}, Ev P n ops l recs L ob L2 ob2 → recs.length = l.length := by
    intro l recs L L2 ob ob2 ops h
    induction h with
    | nil => rfl
    | cons _ _ _ _ _ ih => simp [ih]
  have hln := hlen hev
  simp only [drawOk, Bool.and_eq_true] at hok
  refine wpIn_region_any hm ?_
  have hiw : Inv m γ ob { w with drawn := w.drawn + 1 } := by
    refine ⟨hi.mem, fun o X hX => ?_, hi.sep, hi.dom, hi.len⟩
    have := hi.obj o X hX
    cases X <;> exact this
  have hmap1 : (List.range l.length).map (fun i => l.toArray.getD i default) = l := by
    apply List.ext_getElem?
    intro i
    rw [List.getElem?_map]
    by_cases hi' : i < l.length
    · simp [hi', Array.getD_eq_getD_getElem?]
    · simp [hi']
  have hmap2 : (List.range l.length).map (fun i => recs.getD i ⟨none, [], .any, [], .pure⟩) = recs := by
    apply List.ext_getElem?
    intro i
    rw [List.getElem?_map]
    by_cases hi' : i < l.length
    · simp [hi', List.getD_eq_getElem?_getD, show i < recs.length by omega]
    · simp [hi', show recs.length ≤ i by omega]
  have hfil : (List.range l.toArray.size).filter (fun i => !(Array.replicate l.toArray.size false).getD i true) = List.range l.length := by
    simp only [List.size_toArray]
    refine List.filter_eq_self.2 fun i hi' => ?_
    have : i < l.length := by simpa using hi'
    simp [Array.getD_eq_getD_getElem?, this]
  refine any_sound (by simpa using hd) (bitsFrom l []) (by simpa using hok.1) (by simp) (fun i => recs.getD i ⟨none, [], .any, [], .pure⟩) ?_ l.toArray.size _ (List.range l.length) L L2 ob ob2 (by simp) (by simp) hfil.symm ?_ ?_ m γ _ a hiw hl hs
    fun m' γ' w' a' ht hi2 hl2 hs2 hd2 hk2 => hq m' γ' w' a' ((⟨fun _ _ h => h, fun _ _ h => .inl h, fun _ _ h => h, rfl, rfl, rfl, Nat.le_refl _, fun _ _ _ => rfl⟩ : Trans m γ w m γ { w with drawn := w.drawn + 1 }).trans ht) hi2 hl2 hs2 hd2 fun o g hks hg => hk2 o g (fun i hi3 => hks _ (by
      have : i < l.length := by simpa using hi3
      rw [List.getD_eq_getElem?_getD, List.getElem?_eq_getElem (show i < recs.length by omega)]
      simp)) hg
  · intro p q hpq hq'
    have hq2 : q < recs.length := by simpa [hln] using hq'
    have := pairsOk_spec (before := []) (j := 0) rfl hok.2 q (recs[q]) (List.getElem?_eq_getElem hq2) p (recs[p]'(by omega)) (by omega) (by simp [show p < recs.length by omega])
    simpa [List.getD_eq_getElem?_getD, hq2, show p < recs.length by omega] using this
  · intro i o ho hl'
    simp only [List.size_toArray, Array.getD_eq_getD_getElem?] at hl'
    exfalso
    by_cases h : i < l.length
    · simp [h] at hl'
    · simp [h] at hl'
  · rw [hmap1, hmap2]; exact hev
end
end Go.Am
