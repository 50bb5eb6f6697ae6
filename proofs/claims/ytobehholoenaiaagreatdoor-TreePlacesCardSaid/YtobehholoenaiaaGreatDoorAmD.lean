/-
  An abstract machine, part D: code, loops, functions, calls.
-/
import Derived.Test.YtobehholoenaiaaGreatDoorAmC
import Derived.Laws.StructEq
import Derived.Deep.LoopGhost
namespace Go.Am

/-- How a piece of code is left. -/
inductive AX where
  | normal
  | ret
  | exit (id : Nat)
  | goto (l : Nat)
  | panic (av : AV)

def ExRep (m : Mem) (γ : Gam) : Exit → AX → Prop
  | .normal, .normal => True
  | .ret, .ret => True
  | .exit i, .exit j => i = j
  | .goto i, .goto j => i = j
  | .panic chain, .panic av => ∃ v, chain = [{ v, recovered := false }] ∧ Rep m γ av v
  | _, _ => False

/-- The objects of number K and beyond are the call's own; of those before, only the ones in kk may be lost sight of. -/
def kept (K : Nat) (kk : List Nat) (o : Nat) : Prop := o < K ∧ kk.contains o = false

abbrev APost := AX → Loc → List Ob → Prop

/-- is there a range over a function? -/
def _root_.Go.Code.rf : Code → Bool
  | .rangeFunc _ _ _ _ => true
  | .seq a b => a.rf || b.rf
  | .cond _ a b => a.rf || b.rf
  | .block _ c => c.rf
  | .loop c => c.rf
  | .scope c => c.rf
  | _ => false
/-! ### What ranges over functions leave among the deferred calls -/
def mark (D : Nat) : Deferred := { target := .collected D, args := #[] }
def Marks (rf : Bool) (ds0 : List Deferred) (w0 : World) (ds : List Deferred) (γ : Gam) (w : World) : Prop :=
  ∃ Ds : List Nat, ds = Ds.map mark ++ ds0 ∧ (rf = true ∨ Ds = []) ∧ Ds.Nodup ∧ ∀ D ∈ Ds, w0.heap.size ≤ D ∧ D < w.heap.size ∧ w.heap[D]? = some (.deferred (some [])) ∧ ¬ InG γ D
theorem Marks.none (rf : Bool) (ds : List Deferred) (w0 : World) (γ : Gam) (w : World) : Marks rf ds w0 ds γ w := ⟨[], rfl, .inr rfl, List.nodup_nil, by simp⟩
theorem Marks.of_eq {rf : Bool} {ds ds' : List Deferred} {w0 : World} {γ : Gam} {w : World} (h : ds' = ds) : Marks rf ds w0 ds' γ w := h ▸ Marks.none rf ds w0 γ w
theorem Marks.up {rf rf' : Bool} {ds0 ds : List Deferred} {w0 : World} {γ : Gam} {w : World} (h : Marks rf ds0 w0 ds γ w) (hr : rf = true → rf' = true) : Marks rf' ds0 w0 ds γ w := by
  obtain ⟨Ds, h1, h2, h3⟩ := h
  exact ⟨Ds, h1, h2.imp hr id, h3⟩
theorem Marks.gam {rf : Bool} {ds0 ds : List Deferred} {w0 : World} {γ γ' : Gam} {w : World} (h : Marks rf ds0 w0 ds γ w) (hg : ∀ k, InG γ' k → InG γ k) : Marks rf ds0 w0 ds γ' w := by
  obtain ⟨Ds, h1, h2, h3, h4⟩ := h
  exact ⟨Ds, h1, h2, h3, fun D hD => ⟨(h4 D hD).1, (h4 D hD).2.1, (h4 D hD).2.2.1, fun hi => (h4 D hD).2.2.2 (hg D hi)⟩⟩
theorem Marks.base {rf : Bool} {ds0 ds : List Deferred} {w0 w1 : World} {γ : Gam} {w : World} (h : Marks rf ds0 w1 ds γ w) (hs : w0.heap.size ≤ w1.heap.size) : Marks rf ds0 w0 ds γ w := by
  obtain ⟨Ds, h1, h2, h3, h4⟩ := h
  exact ⟨Ds, h1, h2, h3, fun D hD => ⟨Nat.le_trans hs (h4 D hD).1, (h4 D hD).2⟩⟩
theorem Marks.on {rf : Bool} {ds0 ds : List Deferred} {w0 w1 w2 : World} {m1 m2 : Mem} {γ1 γ2 : Gam} (h : Marks rf ds0 w0 ds γ1 w1) (ht : Trans m1 γ1 w1 m2 γ2 w2) : Marks rf ds0 w0 ds γ2 w2 := by
  obtain ⟨Ds, h1, h2, h3, h4⟩ := h
  refine ⟨Ds, h1, h2, h3, fun D hD => ?_⟩
  obtain ⟨k1, k2, k3, k4⟩ := h4 D hD
  exact ⟨k1, Nat.lt_of_lt_of_le k2 ht.size, (ht.blk D k2 k4).trans k3, fun hi => k4 (ht.gam D k2 hi)⟩
theorem Marks.app {rf : Bool} {ds0 ds1 ds2 : List Deferred} {w0 w1 w2 : World} {m1 m2 : Mem} {γ1 γ2 : Gam} (h : Marks rf ds0 w0 ds1 γ1 w1) (hs : w0.heap.size ≤ w1.heap.size) (ht : Trans m1 γ1 w1 m2 γ2 w2) (k : Marks rf ds1 w1 ds2 γ2 w2) : Marks rf ds0 w0 ds2 γ2 w2 := by
  obtain ⟨Ds, h1, h2, h3, h4⟩ := h.on ht
  obtain ⟨Es, k1, k2, k3, k4⟩ := k
  obtain ⟨Ds', h1', _, _, h4'⟩ := h
  have hD : Ds' = Ds := by
    have := h1'.symm.trans h1
    have := List.append_cancel_right this
    have inj : ∀ (a b : List Nat), a.map mark = b.map mark → a = b := by
      intro a
      induction a with
      | nil => intro b hb; cases b with
        | nil => rfl
        | cons => simp at hb
      | cons x a ih => intro b hb; cases b with
        | nil => simp at hb
        | cons y b =>
          simp only [List.map_cons, List.cons.injEq, mark, Deferred.mk.injEq, Target.collected.injEq, and_true] at hb
          rw [hb.1, ih b hb.2]
    exact inj _ _ this
  subst hD
  refine ⟨Es ++ Ds', by rw [k1, h1', List.map_append, List.append_assoc], ?_, ?_, fun D hD => ?_⟩
  · rcases h2 with h2 | h2
    · exact .inl h2
    · rcases k2 with k2 | k2
      · exact .inl k2
      · exact .inr (by rw [h2, k2]; rfl)
  · refine List.nodup_append.2 ⟨k3, h3, fun a ha b hb e => ?_⟩
    have q1 := (k4 a ha).1
    have q2 := (h4' b hb).2.1
    omega
  · rcases List.mem_append.1 hD with hD | hD
    · exact ⟨Nat.le_trans hs (k4 D hD).1, (k4 D hD).2⟩
    · exact h4 D hD

def Post (rf : Bool) (ds0 : List Deferred) (K : Nat) (kk : List Nat) (n : Nat) (Q : APost) (m : Mem) (γ : Gam) (w : World) : Exit → Act → World → Prop := fun e a' w' =>
  ∃ m' γ' L' ob' x, Q x L' ob' ∧ ExRep m' γ' e x ∧ Trans m γ w m' γ' w' ∧ Inv m' γ' ob' w' ∧ RepLoc m' γ' a' L' ∧ a'.tmps.size = n ∧ Marks rf ds0 w a'.defers γ' w' ∧ (∀ o g, kept K kk o → γ o = some g → γ' o = some g)

/-- Code, in a function's frame ('none') or in a round's. -/
def awp (df : Option Nat) (P : Program) (n K : Nat) (kk : List Nat) (c : Code) (Q : APost) (L : Loc) (ob : List Ob) : Prop :=
  ∀ m γ w a, Inv m γ ob w → RepLoc m γ a L → a.tmps.size = n → True → c.wpIn (wideR df) 0 P (Post c.rf a.defers K kk n Q m γ w) a w

def thenP (N : Loc → List Ob → Prop) (Q : APost) : APost
  | .normal, L, ob => N L ob
  | x, L, ob => Q x L ob
def blockP (id : Nat) (Q : APost) : APost
  | .exit j, L, ob => if j = id then Q .normal L ob else Q (.exit j) L ob
  | x, L, ob => Q x L ob

section
variable {df : Option Nat} {P : Program} {n K : Nat} {kk : List Nat} {Q : APost} {L : Loc} {ob : List Ob}

theorem Post.trans {rf rf1 rf2 : Bool} {ds0 ds1 : List Deferred} {m m1 : Mem} {γ γ1 : Gam} {w w1 : World} {e : Exit} {a : Act} {w2 : World} (ht : Trans m γ w m1 γ1 w1) (hk : ∀ o g, kept K kk o → γ o = some g → γ1 o = some g)
    (hm : Marks rf1 ds0 w ds1 γ1 w1) (r1 : rf1 = true → rf = true) (r2 : rf2 = true → rf = true) (h : Post rf2 ds1 K kk n Q m1 γ1 w1 e a w2) : Post rf ds0 K kk n Q m γ w e a w2 := by
  obtain ⟨m', γ', L', ob', x, h1, h2, h3, h4, h5, h6, h7, h8⟩ := h
  exact ⟨m', γ', L', ob', x, h1, h2, ht.trans h3, h4, h5, h6, (hm.up r1).app ht.size h3 (h7.up r2), fun o g ho hg => h8 o g ho (hk o g ho hg)⟩

theorem Post.rf {rf rf' : Bool} {ds0 : List Deferred} {m : Mem} {γ : Gam} {w : World} {e : Exit} {a : Act} {w' : World} (hr : rf = true → rf' = true) (h : Post rf ds0 K kk n Q m γ w e a w') : Post rf' ds0 K kk n Q m γ w e a w' := by
  obtain ⟨m', γ', L', ob', x, h1, h2, h3, h4, h5, h6, h7, h8⟩ := h
  exact ⟨m', γ', L', ob', x, h1, h2, h3, h4, h5, h6, h7.up hr, h8⟩
theorem awp_mono {c : Code} {Q' : APost} (h : awp df P n K kk c Q L ob) (hq : ∀ x L ob, Q x L ob → Q' x L ob) : awp df P n K kk c Q' L ob := by
  intro m γ w a hi hl hs hd
  refine wpIn_mono (h m γ w a hi hl hs hd) fun e a' w' ⟨m', γ', L', ob', x, h1, h2⟩ => ⟨m', γ', L', ob', x, hq _ _ _ h1, h2⟩

theorem awp_weaken {c : Code} {L' : Loc} (hs : Sub L' L) (h : awp df P n K kk c Q L' ob) : awp df P n K kk c Q L ob :=
  fun m γ w a hi hl => h m γ w a hi (hl.sub hs)

theorem awp_here (x : AX) (e : Exit) (hx : ∀ m γ, ExRep m γ e x) {m : Mem} {γ : Gam} {w : World} {a : Act} (hi : Inv m γ ob w) (hl : RepLoc m γ a L) (hs : a.tmps.size = n) (hq : Q x L ob) {rf : Bool} :
    Post rf a.defers K kk n Q m γ w e a w := ⟨m, γ, L, ob, x, hq, hx m γ, Trans.refl _ _ _, hi, hl, hs, Marks.none _ _ _ _ _, fun _ _ _ h => h⟩

theorem awp_skip (h : Q .normal L ob) : awp df P n K kk .skip Q L ob := fun _ _ _ _ hi hl hs _ => wpIn_skip (awp_here .normal .normal (fun _ _ => trivial) hi hl hs h)
theorem awp_label {l : Nat} (h : Q .normal L ob) : awp df P n K kk (.label l) Q L ob := fun _ _ _ _ hi hl hs _ => wpIn_label (awp_here .normal .normal (fun _ _ => trivial) hi hl hs h)
theorem awp_ret (h : Q .ret L ob) : awp df P n K kk .ret Q L ob := fun _ _ _ _ hi hl hs _ => wpIn_ret (awp_here .ret .ret (fun _ _ => trivial) hi hl hs h)
theorem awp_exit {id : Nat} (h : Q (.exit id) L ob) : awp df P n K kk (.exit id) Q L ob := fun _ _ _ _ hi hl hs _ => wpIn_exit (awp_here (.exit id) (.exit id) (fun _ _ => rfl) hi hl hs h)
theorem awp_goto {l : Nat} (h : Q (.goto l) L ob) : awp df P n K kk (.goto l) Q L ob := fun _ _ _ _ hi hl hs _ => wpIn_goto (awp_here (.goto l) (.goto l) (fun _ _ => rfl) hi hl hs h)

theorem awp_seq {x y : Code} (h : awp df P n K kk x (thenP (awp df P n K kk y Q) Q) L ob) : awp df P n K kk (.seq x y) Q L ob := by
  intro m γ w a hi hl hs hd
  refine wpIn_seq (wpIn_mono (h m γ w a hi hl hs hd) ?_)
  intro e a1 w1 ⟨m1, γ1, L1, ob1, ax, h1, h2, h3, h4, h5, h6, h7, h8⟩
  have h7' : Marks (x.rf || y.rf) a.defers w a1.defers γ1 w1 := h7.up fun e => by rw [e]; rfl
  have go : ∀ (e : Exit) (ax : AX), thenP (awp df P n K kk y Q) Q ax L1 ob1 → ExRep m1 γ1 e ax → Exit.then (y.wpIn (wideR df) 0 P (Post (x.rf || y.rf) a.defers K kk n Q m γ w)) (Post (x.rf || y.rf) a.defers K kk n Q m γ w) e a1 w1 := by
    intro e ax h1 h2
    cases e with
    | normal =>
      cases ax <;> first | exact h2.elim | skip
      exact wpIn_mono (h1 m1 γ1 w1 a1 h4 h5 h6 trivial) fun e2 a2 w2 hp => Post.trans h3 h8 h7 (fun e => by rw [e]; rfl) (fun e => by rw [e, Bool.or_true]) hp
    | ret => cases ax <;> first | exact h2.elim | exact ⟨m1, γ1, L1, ob1, _, h1, h2, h3, h4, h5, h6, h7', h8⟩
    | exit => cases ax <;> first | exact h2.elim | exact ⟨m1, γ1, L1, ob1, _, h1, h2, h3, h4, h5, h6, h7', h8⟩
    | goto => cases ax <;> first | exact h2.elim | exact ⟨m1, γ1, L1, ob1, _, h1, h2, h3, h4, h5, h6, h7', h8⟩
    | panic => cases ax <;> first | exact h2.elim | exact ⟨m1, γ1, L1, ob1, _, h1, h2, h3, h4, h5, h6, h7', h8⟩
    | outgrown => cases ax <;> exact h2.elim
  exact go e ax h1 h2

theorem awp_seq_k {x y : Code} (h : ∀ N : Loc → List Ob → Prop, (∀ L ob, awp df P n K kk y Q L ob → N L ob) → awp df P n K kk x (thenP N Q) L ob) : awp df P n K kk (.seq x y) Q L ob :=
  awp_seq (h _ fun _ _ h => h)

def aeval (L : Loc) : Operand → Option AV
  | .tmp t => lk L t
  | .const (.agg cs) => some (.ag (cs.toList.map .v))
  | .const v => some (.v v)
  | .global g => match tabs.lookup g with
    | some cs => some (.pf (cs.map .v))
    | none => some (.v (.pointer (some ⟨g, 0, none⟩)))
  | .func f => some (.fn (.func f) [] [])
theorem reps_plain {m : Mem} {γ : Gam} : ∀ (vs : List Value), RepVals m γ (vs.map .v) vs
  | [] => by simp [RepVals]
  | v :: vs => by simp only [List.map_cons, RepVals, Rep]; exact ⟨v, vs, rfl, rfl, reps_plain vs⟩
theorem rep_glob {m : Mem} {γ : Gam} {g : Nat} {cs : List Value} (h : tabs.lookup g = some cs) : ∀ (l : List Value) (off : Nat), (∀ i x, l[i]? = some x → cs[off + i]? = some x) → RepCells m γ (l.map .v) g off
  | [], _, _ => by simp [RepCells]
  | x :: l, off, hl => by
    simp only [List.map_cons, RepCells, Rep]
    refine ⟨⟨x, m.has _ _ ?_, rfl⟩, rep_glob h l (off + 1) fun i y hy => ?_⟩
    · have := hl 0 x rfl
      simp only [glob, h]
      simpa using this
    · have := hl (i + 1) y (by simpa using hy)
      rw [show off + 1 + i = off + (i + 1) from by omega]
      exact this
theorem rep_const {m : Mem} {γ : Gam} {a : Act} {v : Value} {av : AV} (h : aeval L (.const v) = some av) : Rep m γ av (a.eval (.const v)) := by
  cases v <;> simp only [aeval, Option.some.injEq] at h <;> subst h <;> first
    | (simp only [Rep, Act.eval]; exact ⟨_, by simp, reps_plain _⟩)
    | simp [Rep, Act.eval]
theorem rep_global {m : Mem} {γ : Gam} {a : Act} {g : Nat} {av : AV} (h : aeval L (.global g) = some av) : Rep m γ av (a.eval (.global g)) := by
  simp only [aeval] at h
  split at h
  · rename_i cs hc
    simp only [Option.some.injEq] at h; subst h
    simp only [Rep, Act.eval]
    exact ⟨g, 0, rfl, rep_glob hc cs 0 fun i x hx => by simpa using hx⟩
  · simp only [Option.some.injEq] at h; subst h; simp [Rep, Act.eval]
theorem rep_eval {m : Mem} {γ : Gam} {a : Act} {x : Operand} {av : AV} (hl : RepLoc m γ a L) (h : aeval L x = some av) : Rep m γ av (a.eval x) := by
  cases x with
  | tmp t => exact (hl t av h).2
  | const v => exact rep_const h
  | global g => exact rep_global h
  | func f => simp only [aeval, Option.some.injEq] at h; subst h; simp [Rep, Act.eval, RepVals]

theorem awp_cond {c : Operand} {x y : Code} {b : Bool} (hc : aeval L c = some (.v (.bool b))) (ht : b = true → awp df P n K kk x Q L ob) (hf : b = false → awp df P n K kk y Q L ob) : awp df P n K kk (.cond c x y) Q L ob := by
  intro m γ w a hi hl hs hd
  have he := rep_eval hl hc
  simp only [Rep] at he
  exact wpIn_cond_split he (fun hb => wpIn_mono (ht hb m γ w a hi hl hs hd) fun e a' w' hp => Post.rf (fun e => by simp only [Code.rf]; rw [e]; rfl) hp) (fun hb => wpIn_mono (hf hb m γ w a hi hl hs hd) fun e a' w' hp => Post.rf (fun e => by simp only [Code.rf]; rw [e, Bool.or_true]) hp)

theorem awp_block {id : Nat} {c : Code} (h : awp df P n K kk c (blockP id Q) L ob) : awp df P n K kk (.block id c) Q L ob := by
  intro m γ w a hi hl hs hd
  refine wpIn_block (wpIn_mono (h m γ w a hi hl hs hd) ?_)
  intro e a1 w1 ⟨m1, γ1, L1, ob1, ax, h1, h2, h3⟩
  cases e with
  | normal => cases ax <;> first | exact h2.elim | exact ⟨m1, γ1, L1, ob1, _, h1, h2, h3⟩
  | ret => cases ax <;> first | exact h2.elim | exact ⟨m1, γ1, L1, ob1, _, h1, h2, h3⟩
  | exit j =>
    cases ax <;> first | exact h2.elim | skip
    rename_i k
    simp only [ExRep] at h2
    subst h2
    simp only [Exit.inBlock, blockP] at h1 ⊢
    split
    · rename_i hj; rw [if_pos hj] at h1; exact ⟨m1, γ1, L1, ob1, .normal, h1, trivial, h3⟩
    · rename_i hj; rw [if_neg hj] at h1; exact ⟨m1, γ1, L1, ob1, .exit j, h1, rfl, h3⟩
  | goto => cases ax <;> first | exact h2.elim | exact ⟨m1, γ1, L1, ob1, _, h1, h2, h3⟩
  | panic => cases ax <;> first | exact h2.elim | exact ⟨m1, γ1, L1, ob1, _, h1, h2, h3⟩
  | outgrown => cases ax <;> exact h2.elim

/-- A loop: 'S i', 'B i' are the states at its head, 'μ' goes down in each round. -/
theorem awp_loop {ι : Type} {c : Code} (S : ι → Loc) (B : ι → List Ob) (I : ι → Prop) (μ : ι → Nat) (i0 : ι) (h0 : I i0) (hL : Sub (S i0) L) (hB : B i0 = ob)
    (round : ∀ i, I i → awp df P n K kk c (thenP (fun L' ob' => ∃ j, I j ∧ μ j < μ i ∧ Sub (S j) L' ∧ B j = ob') Q) (S i) (B i)) : awp df P n K kk (.loop c) Q L ob := by
  intro m γ w a hi hl hs hd
  refine wpIn_loop_ghost (fun k a' w' => ∃ m' γ' i, μ i = k ∧ I i ∧ Trans m γ w m' γ' w' ∧ Inv m' γ' (B i) w' ∧ RepLoc m' γ' a' (S i) ∧ a'.tmps.size = n ∧ Marks c.rf a.defers w a'.defers γ' w' ∧ (∀ o g, kept K kk o → γ o = some g → γ' o = some g))
    (μ i0) ⟨m, γ, i0, rfl, h0, Trans.refl _ _ _, hB ▸ hi, hl.sub hL, hs, Marks.none _ _ _ _ _, fun _ _ _ h => h⟩ ?_
  rintro k a1 w1 ⟨m1, γ1, i, rfl, hI, ht, hi1, hl1, hs1, hd1, hk1⟩
  refine wpIn_mono (round i hI m1 γ1 w1 a1 hi1 hl1 hs1 trivial) ?_
  intro e a2 w2 ⟨m2, γ2, L2, ob2, ax, h1, h2, h3, h4, h5, h6, h7, h8⟩
  have h7' := hd1.app ht.size h3 h7
  have hk2 : ∀ o g, kept K kk o → γ o = some g → γ2 o = some g := fun o g ho hg => h8 o g ho (hk1 o g ho hg)
  cases e with
  | normal =>
    cases ax <;> first | exact h2.elim | skip
    obtain ⟨j, j1, j2, j3, j4⟩ := h1
    exact ⟨μ j, j2, m2, γ2, j, rfl, j1, ht.trans h3, j4 ▸ h4, h5.sub j3, h6, h7', hk2⟩
  | ret => cases ax <;> first | exact h2.elim | exact ⟨m2, γ2, L2, ob2, _, h1, h2, ht.trans h3, h4, h5, h6, h7', hk2⟩
  | exit => cases ax <;> first | exact h2.elim | exact ⟨m2, γ2, L2, ob2, _, h1, h2, ht.trans h3, h4, h5, h6, h7', hk2⟩
  | goto => cases ax <;> first | exact h2.elim | exact ⟨m2, γ2, L2, ob2, _, h1, h2, ht.trans h3, h4, h5, h6, h7', hk2⟩
  | panic => cases ax <;> first | exact h2.elim | exact ⟨m2, γ2, L2, ob2, _, h1, h2, ht.trans h3, h4, h5, h6, h7', hk2⟩
  | outgrown => cases ax <;> exact h2.elim

def keepChk (K : Nat) (kk : List Nat) (recs : List Rec) : Bool := recs.all fun rc => match rc.ks with
  | [] => true
  | k :: ks => (k :: ks).all fun k => Nat.ble K k || kk.contains k
theorem keepChk_spec {recs : List Rec} (h : keepChk K kk recs = true) {o : Nat} (ho : kept K kk o) : ∀ rc ∈ recs, rc.ks.contains o = false := by
  intro rc hrc
  simp only [keepChk, List.all_eq_true] at h
  have h1 := h rc hrc
  cases hks : rc.ks with
  | nil => rfl
  | cons k ks =>
    rw [hks] at h1
    simp only [List.all_eq_true, Bool.or_eq_true] at h1
    cases hc : (k :: ks).contains o with
    | false => rfl
    | true =>
      exfalso
      have hm : o ∈ k :: ks := by simpa using hc
      rcases h1 o hm with h2 | h2
      · have := Nat.le_of_ble_eq_true h2
        have := ho.1
        omega
      · have := ho.2
        rw [h2] at this
        cases this

/-- What is kept of the slots behind a region. -/
def KeepL (L : Loc) : Loc → Prop
  | [] => True
  | (t, av) :: L3 => lk L t = some av ∧ KeepL L L3
theorem keepL_sub {L : Loc} : ∀ {L3 : Loc}, KeepL L L3 → Sub L3 L
  | [], _ => Sub.nil L
  | (_t, _av) :: _L3, h => Sub.cons h.1 (keepL_sub h.2)

/-- The operations of a region, and what is asked of them behind. -/
def EvK (P : Program) (n : Nat) (ops : Array Oper) (l : List Oper) (L : Loc) (ob : List Ob) (kf : List Rec → Loc → List Ob → Prop) : Prop := ∃ recs L2 ob2, Ev P n ops l recs L ob L2 ob2 ∧ kf recs L2 ob2
theorem evk_nil {n : Nat} {ops : Array Oper} {kf : List Rec → Loc → List Ob → Prop} (h : kf [] L ob) : EvK P n ops [] L ob kf := ⟨[], L, ob, .nil _ _, h⟩
theorem evk_cons {n : Nat} {ops : Array Oper} {o : Oper} {rest : List Oper} {rc : Rec} {ob' : List Ob} {kf : List Rec → Loc → List Ob → Prop} (hus : Sub rc.us L) (hdst : rc.dst = o.dst) (hn : ∀ d, o.dst = some d → d < n) (hst : StepK P ops o rc ob ob')
    (h : EvK P n ops rest (updL L rc.dst rc.r rc.ks) ob' (fun recs => kf (rc :: recs))) : EvK P n ops (o :: rest) L ob kf := by
  obtain ⟨recs, L2, ob2, hev, hk⟩ := h
  exact ⟨rc :: recs, L2, ob2, .cons hus hdst hn hst hev, hk⟩
/-- What is asked behind a region: its writes are the call's own; of the slots these are kept. -/
def RegEnd (K : Nat) (kk : List Nat) (Q : APost) (recs : List Rec) (L2 : Loc) (ob2 : List Ob) : Prop := keepChk K kk recs = true ∧ ∃ L3, KeepL L2 L3 ∧ Q .normal L3 ob2
def DrawEnd (K : Nat) (kk : List Nat) (Q : APost) (l : List Oper) (recs : List Rec) (L2 : Loc) (ob2 : List Ob) : Prop := drawOk l recs = true ∧ RegEnd K kk Q recs L2 ob2
theorem awp_region {id : Nat} {l : List Oper} (hst : df = none ∨ l.all Oper.still = true) (h : EvK P n l.toArray l L ob (RegEnd K kk Q)) : awp df P n K kk (.region id l.toArray false) Q L ob := by
  obtain ⟨recs, L2, ob2, hev, hk, L3, hL, hq⟩ := h
  intro m γ w a hi hl hs hd
  refine wpIn_region_lit ?_
  exact ev_sound hev hst hi hl hs fun m' γ' w' a' ht hi' hl' hs' hd' hk' =>
    ⟨m', γ', L3, ob2, .normal, hq, trivial, ht, hi', hl'.sub (keepL_sub hL), hs', .of_eq hd', fun o g ho hg => hk' o g (keepChk_spec hk ho) hg⟩
theorem awp_region_draw {id : Nat} {l : List Oper} (hst : df = none ∨ l.all Oper.still = true) (hm : P.follows .mixedOrders = true) (h : EvK P n l.toArray l L ob (DrawEnd K kk Q l)) : awp df P n K kk (.region id l.toArray true) Q L ob := by
  obtain ⟨recs, L2, ob2, hev, hok, hk, L3, hL, hq⟩ := h
  intro m γ w a hi hl hs hd
  exact region_any hm hst hev hok hi hl hs fun m' γ' w' a' ht hi' hl' hs' hd' hk' =>
    ⟨m', γ', L3, ob2, .normal, hq, trivial, ht, hi', hl'.sub (keepL_sub hL), hs', .of_eq hd', fun o g ho hg => hk' o g (keepChk_spec hk ho) hg⟩
theorem reg_end {K : Nat} {kk : List Nat} {Q : APost} {recs : List Rec} {L2 L3 : Loc} {ob2 : List Ob} (h : keepChk K kk recs = true) (hL : KeepL L2 L3) (hq : Q .normal L3 ob2) : RegEnd K kk Q recs L2 ob2 := ⟨h, L3, hL, hq⟩
theorem draw_end {K : Nat} {kk : List Nat} {Q : APost} {l : List Oper} {recs : List Rec} {L2 L3 : Loc} {ob2 : List Ob} (h0 : drawOk l recs = true) (h : keepChk K kk recs = true) (hL : KeepL L2 L3) (hq : Q .normal L3 ob2) : DrawEnd K kk Q l recs L2 ob2 := ⟨h0, h, L3, hL, hq⟩
end

/-! ### Types, as the operations ask for them -/
def isAggD : TypeDesc → Bool
  | .struct _ | .array _ _ => true
  | _ => false
/-- of one cell or many, and how many -/
def tyk (P : Program) (t : TypeId) : Option (Bool × Nat) := match P.underlying t, P.info? t with
  | some d, some i => some (isAggD d, i.size)
  | _, _ => none
/-- a field's place -/
def fld (P : Program) (s f : Nat) : Option Nat := match P.underlying s with
  | some (.struct fs) => match fs[f]? with
    | some fd => match P.info? fd.type with
      | some i => if i.size = 0 then none else some fd.offset
      | none => none
    | none => none
  | _ => none
/-- a slice's elements: their type, cells, bytes -/
def slk (P : Program) (t : TypeId) : Option (TypeId × Nat × Nat) := match P.underlying t with
  | some (.slice e) => match P.info? e with
    | some i => some (e, i.size, i.bytes)
    | none => none
  | _ => none
/-- a zero value's cells -/
def zer (P : Program) (t : TypeId) : Option (List Value) := match P.info? t with
  | some i => i.zero.map fun z => z.cells.toList
  | none => none

section
variable {P : Program} {w : World}
theorem run_isAgg {t : TypeId} {g : Bool} {k : Nat} (h : tyk P t = some (g, k)) : (isAgg t).run P w = .ok g w := by
  unfold tyk at h
  cases hu : P.underlying t with
  | none => simp [hu] at h
  | some d =>
    cases hi : P.info? t with
    | none => simp [hu, hi] at h
    | some i =>
      simp only [hu, hi, Option.some.injEq, Prod.mk.injEq] at h
      unfold isAgg
      rw [Sem.run_bind, run_underlying hu w]
      simp only [Result.andThen_ok]
      rw [← h.1]
      cases d <;> simp [isAggD]
theorem run_sizeOf {t : TypeId} {g : Bool} {k : Nat} (h : tyk P t = some (g, k)) : (sizeOf t).run P w = .ok k w := by
  unfold tyk at h
  cases hu : P.underlying t with
  | none => simp [hu] at h
  | some d =>
    cases hi : P.info? t with
    | none => simp [hu, hi] at h
    | some i =>
      simp only [hu, hi, Option.some.injEq, Prod.mk.injEq] at h
      simp [sizeOf, typeInfo, hi, h.2]
theorem add_addr (b off j : Nat) : (⟨b, off, none⟩ : Addr).add j = ⟨b, off + j, none⟩ := by unfold Addr.add; split <;> simp_all
theorem run_loadVar_agg {t : TypeId} {k : Nat} (h : tyk P t = some (true, k)) {b off : Nat} {xs : List Value} (hx : ∀ j v, xs[j]? = some v → w.cell? ⟨b, off + j, none⟩ = some v) (hl : xs.length = k) :
    (loadVar t ⟨b, off, none⟩).run P w = .ok (.agg xs.toArray) w := by
  have hc := run_loadCells_list (P := P) w ⟨b, off, none⟩ xs (fun j v hv => by rw [add_addr]; exact hx j v hv)
  rw [hl] at hc
  simp [loadVar, run_isAgg h, run_sizeOf h, hc]
theorem run_loadVar_one {t : TypeId} {k : Nat} (h : tyk P t = some (false, k)) {b off : Nat} {x : Value} (hx : w.cell? ⟨b, off, none⟩ = some x) : (loadVar t ⟨b, off, none⟩).run P w = .ok x w := by
  simp [loadVar, run_isAgg h, hx]
end

/-! ### Functions -/
inductive AEnd where
  | ret (av : AV)
  | panic (av : AV)
def EndRep (m : Mem) (γ : Gam) : Ending → AEnd → Prop
  | .returned v, .ret av => Rep m γ av v
  | .panicked chain, .panic av => ∃ v, chain = [{ v, recovered := false }] ∧ Rep m γ av v
  | _, _ => False

/-- What a call does, by abstract values: 'ob' the objects that it is handed, 'kk' those of them that may be lost sight of. -/
def ACalls (P : Program) (f : FuncId) (args : List AV) (ob : List Ob) (kk : List Nat) (R : AEnd → List Ob → Prop) : Prop :=
  (∃ fn, P.funcs[f]? = some fn ∧ (fn.name == "runtime.NumGoroutine") = false ∧ fn.body.isNone = false) ∧
  ∀ m γ w vs, Inv m γ ob w → RepVals m γ args vs → Calls P f vs.toArray w fun e w' =>
    ∃ m' γ' r ob', R r ob' ∧ EndRep m' γ' e r ∧ Trans m γ w m' γ' w' ∧ Inv m' γ' ob' w' ∧ (∀ o g, kk.contains o = false → γ o = some g → γ' o = some g)

/-- The slots that the arguments lie in. -/
def argLoc : Nat → List AV → Loc
  | _, [] => []
  | k, av :: r => (k, av) :: argLoc (k + 1) r

/-- A function's results, out of its slots and objects. -/
inductive ResV (P : Program) (L : Loc) (ob : List Ob) : List ResultVar → List AV → Prop
  | nil : ResV P L ob [] []
  | tmp {t : Tmp} {av : AV} {rs : List ResultVar} {avs : List AV} (h : lk L t = some av) (hr : ResV P L ob rs avs) : ResV P L ob (.tmp t :: rs) (av :: avs)
  | agg {t : Tmp} {ty : TypeId} {o off k : Nat} {Tb : TypeId} {cells : List AV} {rs : List ResultVar} {avs : List AV} (ht : tyk P ty = some (true, k)) (h : lk L t = some (.pt o off)) (ho : ob[o]? = some (.box Tb cells)) (hk : off + k ≤ cells.length)
      (hr : ResV P L ob rs avs) : ResV P L ob (.cell t ty :: rs) (.ag ((cells.drop off).take k) :: avs)
  | one {t : Tmp} {ty : TypeId} {o off k : Nat} {c : AV} {Tb : TypeId} {cells : List AV} {rs : List ResultVar} {avs : List AV} (ht : tyk P ty = some (false, k)) (h : lk L t = some (.pt o off)) (ho : ob[o]? = some (.box Tb cells)) (hk : cells[off]? = some c)
      (hr : ResV P L ob rs avs) : ResV P L ob (.cell t ty :: rs) (c :: avs)
def resOf : List AV → AV
  | [av] => av
  | avs => .tu avs

section
variable {P : Program} {L : Loc} {ob : List Ob} {m : Mem} {γ : Gam} {w : World} {a : Act}
theorem rep_ptr {x : Value} {o off : Nat} (h : Rep m γ (.pt o off) x) : ∃ b C, γ o = some (some (b, C)) ∧ x = .pointer (some ⟨b, off, none⟩) := by simpa [Rep] using h
theorem box_at (hi : Inv m γ ob w) {o : Nat} {Tb : TypeId} {cells : List AV} (ho : ob[o]? = some (.box Tb cells)) : ∃ b cs, γ o = some (some (b, 0)) ∧ w.heap[b]? = some (.cells cs Tb (0, 0)) ∧ RepVals m γ cells cs.toList := by
  obtain ⟨b, cs, h1, h2, h3, _⟩ := hi.obj o _ ho
  exact ⟨b, cs, h1, h2, h3⟩
theorem cell_of {b i : Nat} {cs : Array Value} {T : TypeId} {fr : Nat × Nat} (h : w.heap[b]? = some (.cells cs T fr)) : w.cell? ⟨b, i, none⟩ = cs[i]? := by simp [World.cell?, h]
theorem load_box_agg (hi : Inv m γ ob w) {o off k : Nat} {Tb : TypeId} {cells : List AV} (ho : ob[o]? = some (.box Tb cells)) (hk : off + k ≤ cells.length) {x : Value} (hx : Rep m γ (.pt o off) x) {ty : TypeId} (ht : tyk P ty = some (true, k)) :
    ∃ b y, x = .pointer (some ⟨b, off, none⟩) ∧ (loadVar ty ⟨b, off, none⟩).run P w = .ok y w ∧ Rep m γ (.ag ((cells.drop off).take k)) y := by
  obtain ⟨b, C, h1, rfl⟩ := rep_ptr hx
  obtain ⟨b', cs, g1, g2, g3⟩ := box_at hi ho
  rw [h1] at g1; cases g1
  have hr := repVals_take (repVals_drop g3 off) k
  refine ⟨b, _, rfl, run_loadVar_agg ht (xs := (cs.toList.drop off).take k) ?_ ?_, ?_⟩
  · intro j v hv
    rw [List.getElem?_take] at hv
    split at hv
    · rw [cell_of g2]; simpa using hv
    · cases hv
  · rw [repVals_length hr]; simp; omega
  · simp only [Rep]; exact ⟨_, rfl, hr⟩
theorem load_box_one (hi : Inv m γ ob w) {o off k : Nat} {c : AV} {Tb : TypeId} {cells : List AV} (ho : ob[o]? = some (.box Tb cells)) (hk : cells[off]? = some c) {x : Value} (hx : Rep m γ (.pt o off) x) {ty : TypeId} (ht : tyk P ty = some (false, k)) :
    ∃ b y, x = .pointer (some ⟨b, off, none⟩) ∧ (loadVar ty ⟨b, off, none⟩).run P w = .ok y w ∧ Rep m γ c y := by
  obtain ⟨b, C, h1, rfl⟩ := rep_ptr hx
  obtain ⟨b', cs, g1, g2, g3⟩ := box_at hi ho
  rw [h1] at g1; cases g1
  obtain ⟨y, hy, hr⟩ := repVals_get g3 off c hk
  exact ⟨b, y, rfl, run_loadVar_one ht (by rw [cell_of g2]; simpa using hy), hr⟩

theorem asAddr_ptr (ad : Addr) : asAddr (.pointer (some ad)) = pure ad := rfl
theorem run_resV (hi : Inv m γ ob w) (hl : RepLoc m γ a L) {rs : List ResultVar} {avs : List AV} (h : ResV P L ob rs avs) :
    ∃ vs : List Value, (rs.mapM (m := Sem) fun | .tmp t => pure (a.tmps.getD t undef) | .cell x t => do loadVar t (← asAddr (a.tmps.getD x undef))).run P w = .ok vs w ∧ RepVals m γ avs vs := by
  induction h with
  | nil => exact ⟨[], by simp, by simp [RepVals]⟩
  | tmp h hr ih =>
    obtain ⟨vs, h1, h2⟩ := ih
    refine ⟨_ :: vs, ?_, by simp only [RepVals]; exact ⟨_, _, rfl, (hl _ _ h).2, h2⟩⟩
    simp only [List.mapM_cons, Sem.run_bind, Sem.run_pure, Result.andThen_ok, h1]
  | agg ht h ho hk hr ih =>
    obtain ⟨vs, h1, h2⟩ := ih
    obtain ⟨b, y, e1, e2, e3⟩ := load_box_agg hi ho hk (hl _ _ h).2 ht
    refine ⟨y :: vs, ?_, by simp only [RepVals]; exact ⟨_, _, rfl, e3, h2⟩⟩
    simp only [List.mapM_cons, Sem.run_bind, e1, asAddr_ptr, Sem.run_pure, Result.andThen_ok, h1, e2]
  | one ht h ho hk hr ih =>
    obtain ⟨vs, h1, h2⟩ := ih
    obtain ⟨b, y, e1, e2, e3⟩ := load_box_one hi ho hk (hl _ _ h).2 ht
    refine ⟨y :: vs, ?_, by simp only [RepVals]; exact ⟨_, _, rfl, e3, h2⟩⟩
    simp only [List.mapM_cons, Sem.run_bind, e1, asAddr_ptr, Sem.run_pure, Result.andThen_ok, h1, e2]
theorem run_results (hi : Inv m γ ob w) (hl : RepLoc m γ a L) {fn : Func} {avs : List AV} (h : ResV P L ob fn.results.toList avs) : ∃ v, (results fn a.tmps).run P w = .ok v w ∧ Rep m γ (resOf avs) v := by
  obtain ⟨vs, h1, h2⟩ := run_resV hi hl h
  have hm : (fn.results.mapM (m := Sem) fun | .tmp t => pure (a.tmps.getD t undef) | .cell x t => do loadVar t (← asAddr (a.tmps.getD x undef))).run P w = .ok vs.toArray w := by
    rw [Array.mapM_eq_mapM_toList]
    simp only [Sem.run_map, h1, Result.andThen_ok]
  refine ⟨if h : vs.toArray.size = 1 then vs.toArray[0] else .tuple vs.toArray, ?_, ?_⟩
  · unfold results
    refine (Sem.run_bind P w _ _).trans ?_
    exact (congrArg (fun r => Result.andThen r _) hm).trans rfl
  · match avs, vs, h2 with
    | [], vs, h2 => simp only [RepVals] at h2; subst h2; simp [resOf, Rep, RepVals]
    | [av], vs, h2 =>
      simp only [RepVals] at h2
      obtain ⟨x, r, rfl, h3, rfl⟩ := h2
      simpa [resOf] using h3
    | av :: bv :: avs, vs, h2 =>
      have hlen := repVals_length h2
      simp only [List.length_cons] at hlen
      have hne : ¬ vs.toArray.size = 1 := by simp; omega
      rw [dif_neg hne]
      simp only [resOf, Rep]
      exact ⟨vs, rfl, h2⟩

theorem lk_argLoc : ∀ (k : Nat) (avs : List AV) (t : Nat), lk (argLoc k avs) t = if k ≤ t then avs[t - k]? else none
  | k, [], t => by simp [argLoc, lk]
  | k, av :: r, t => by
    simp only [argLoc]
    rw [lk_cons, lk_argLoc (k + 1) r t]
    by_cases h : k = t
    · subst h; simp
    · rw [if_neg h]
      by_cases h1 : k ≤ t
      · rw [if_pos h1, if_pos (by omega), show t - k = (t - (k + 1)) + 1 from by omega]; simp
      · rw [if_neg h1, if_neg (by omega)]

theorem repLoc_args {args : List AV} {vs : List Value} {n : Nat} (hv : RepVals m γ args vs) (_hn : args.length ≤ n) :
    RepLoc m γ { tmps := vs.toArray ++ Array.replicate (n - vs.toArray.size) undef, defers := [] } (argLoc 0 args) := by
  intro t av h
  rw [lk_argLoc] at h
  simp only [Nat.zero_le, if_true, Nat.sub_zero] at h
  obtain ⟨x, hx, hr⟩ := repVals_get hv t av h
  have hlt : t < vs.length := (List.getElem?_eq_some_iff.1 hx).1
  refine ⟨by simp; omega, ?_⟩
  rw [Array.getD_eq_getD_getElem?, Array.getElem?_append_left (by simpa using hlt)]
  simpa [hx] using hr
end

/-- What a function's body must come to. -/
def bodyA (P : Program) (fn : Func) (R : AEnd → List Ob → Prop) : APost
  | .normal, L, ob | .ret, L, ob => ∃ avs, ResV P L ob fn.results.toList avs ∧ R (.ret (resOf avs)) ob
  | .panic av, _, ob => R (.panic av) ob
  | _, _, _ => False

/-- A frame that leaves shuts what its ranges over functions left. -/
theorem leaves_marks {P : Program} {fn : Func} {tmps : Array Value} {R : Ending → World → Prop} {m : Mem} {γ : Gam} {ob : List Ob} {u : FrameMode} (hu : u ≠ .run) : ∀ (Ds : List Nat) (w : World), Inv m γ ob w → Ds.Nodup → (∀ D ∈ Ds, D < w.heap.size ∧ w.heap[D]? = some (.deferred (some [])) ∧ ¬ InG γ D) →
    (∀ w', Inv m γ ob w' → w'.os = w.os → w'.tape = w.tape → w'.output = w.output → w'.heap.size = w.heap.size → (∀ k, k ∉ Ds → w'.heap[k]? = w.heap[k]?) → LeavesIn (wideR none) 0 P fn tmps R [] u w') → LeavesInM (wideR none) 0 P fn tmps R (Ds.map mark) u w
  | [], w, hi, _, _, h => h w hi rfl rfl rfl rfl fun _ _ => rfl
  | D :: Ds, w, hi, hn, hD, h => by
    obtain ⟨hn1, hn2⟩ := List.nodup_cons.1 hn
    obtain ⟨q1, q2, q3⟩ := hD D (by simp)
    refine ⟨hu, .inl ⟨D, _, rfl, run_takeDeferred q2, ?_⟩⟩
    have hoth : ∀ k, k ≠ D → (w.putObj D (.deferred none)).heap[k]? = w.heap[k]? := fun k hk => World.putObj_heap_other hk
    have hi2 : Inv m γ ob (w.putObj D (.deferred none)) := by
      refine ⟨fun a x hx => ?_, fun o X hX => ?_, hi.sep, fun o b C hg => by rw [World.putObj_size]; exact hi.dom o b C hg, hi.len⟩
      · have hc := hi.mem a x hx
        have hne : a.block ≠ D := by
          intro e
          unfold World.cell? at hc
          rw [e, q2] at hc
          simp at hc
        unfold World.cell? at hc ⊢
        rw [hoth _ hne]
        exact hc
      · have hb := hi.obj o X hX
        have hne : ∀ b C, γ o = some (some (b, C)) → b ≠ D := fun b C hg e => q3 ⟨o, C, e ▸ hg⟩
        cases X with
        | dead => trivial
        | box T cells =>
          obtain ⟨b, cs, g1, g2, g3⟩ := hb
          exact ⟨b, cs, g1, (hoth b (hne b _ g1)).trans g2, g3⟩
        | row T S rows =>
          rcases hb with g | ⟨b, C, cs, g1, g2, g3⟩
          · exact .inl g
          · exact .inr ⟨b, C, cs, g1, g2.of_eq (hoth b (hne b _ g1)), g3⟩
        | mp keys vals =>
          obtain ⟨b, es, clock, g1, g2, g3⟩ := hb
          exact ⟨b, es, clock, g1, (hoth b (hne b _ g1)).trans g2, g3⟩
        | lp busy k ts cs =>
          obtain ⟨b, r, xs, g1, g2, g3⟩ := hb
          exact ⟨b, r, xs, g1, (hoth b (hne b _ g1)).trans g2, g3⟩
    refine leaves_marks hu Ds _ hi2 hn2 (fun E hE => ?_) fun w' hi' e1 e2 e3 e4 e5 => h w' hi' e1 e2 e3 (e4.trans World.putObj_size) fun k hk => ?_
    · have hne : E ≠ D := fun e => hn1 (e ▸ hE)
      obtain ⟨p1, p2, p3⟩ := hD E (List.mem_cons_of_mem _ hE)
      exact ⟨by rw [World.putObj_size]; exact p1, (hoth E hne).trans p2, p3⟩
    · simp only [List.mem_cons, not_or] at hk
      exact (e5 k hk.2).trans (hoth k hk.1)
theorem acalls_of_awp {P : Program} {f : FuncId} {fn : Func} {c : Code} {args : List AV} {ob : List Ob} {kk : List Nat} {R : AEnd → List Ob → Prop} (hf : P.funcs[f]? = some fn) (hname : (fn.name == "runtime.NumGoroutine") = false) (hb : fn.body = some c)
    (hn : args.length ≤ fn.ntmps) (h : awp none P fn.ntmps ob.length kk c (bodyA P fn R) (argLoc 0 args) ob) : ACalls P f args ob kk R := by
  refine ⟨⟨fn, hf, hname, by simp [hb]⟩, fun m γ w vs hi hv => callsInR.1 (callsIn_of_wp_marks (F := wideR none) (n := 0) hf hb trivial ?_)⟩
  have hlen := repVals_length hv
  refine wpIn_mono (h m γ w _ hi (repLoc_args hv hn) (by simp; omega) trivial) ?_
  intro e a' w' ⟨m', γ', L', ob', x, h1, h2, h3, h4, h5, h6, h7, h8⟩
  have hk : ∀ o g, kk.contains o = false → γ o = some g → γ' o = some g := fun o g ho hg => h8 o g ⟨hi.len o (by rw [hg]; simp), ho⟩ hg
  obtain ⟨Ds, m1, _, m3, m4⟩ := h7
  simp only [List.append_nil] at m1
  have tr : ∀ w2 : World, w2.os = w'.os → w2.tape = w'.tape → w2.output = w'.output → w2.heap.size = w'.heap.size → (∀ k, k ∉ Ds → w2.heap[k]? = w'.heap[k]?) → Trans m γ w m' γ' w2 := fun w2 e1 e2 e3 e4 e5 =>
    ⟨h3.mem, h3.new, h3.gam, e1.trans h3.os, e2.trans h3.tape, e3.trans h3.output, by rw [e4]; exact h3.size, fun k hk hng => (e5 k fun hD => by have := (m4 k hD).1; omega).trans (h3.blk k hk hng)⟩
  have fin : ∀ avs, ResV P L' ob' fn.results.toList avs → R (.ret (resOf avs)) ob' → LeavesInM (wideR none) 0 P fn a'.tmps (fun e w' => ∃ m' γ' r ob', R r ob' ∧ EndRep m' γ' e r ∧ Trans m γ w m' γ' w' ∧ Inv m' γ' ob' w' ∧ (∀ o g, kk.contains o = false → γ o = some g → γ' o = some g)) a'.defers .returning w' := fun avs g1 g2 => by
    rw [m1]
    refine leaves_marks (by simp) Ds w' h4 m3 (fun D hD => (m4 D hD).2) fun w2 hi2 e1 e2 e3 e4 e5 => ?_
    obtain ⟨v, k1, k2⟩ := run_results hi2 h5 g1
    exact ⟨v, k1, m', γ', _, ob', g2, k2, tr w2 e1 e2 e3 e4 e5, hi2, hk⟩
  cases e with
  | normal =>
    cases x <;> first | exact h2.elim | skip
    obtain ⟨avs, g1, g2⟩ := h1
    exact fin avs g1 g2
  | ret =>
    cases x <;> first | exact h2.elim | skip
    obtain ⟨avs, g1, g2⟩ := h1
    exact fin avs g1 g2
  | exit => cases x <;> first | exact h2.elim | exact h1.elim
  | goto => cases x <;> first | exact h2.elim | exact h1.elim
  | panic chain =>
    cases x <;> first | exact h2.elim | skip
    show LeavesInM (wideR none) 0 P fn a'.tmps _ a'.defers (.panicking chain) w'
    rw [m1]
    exact leaves_marks (by simp) Ds w' h4 m3 (fun D hD => (m4 D hD).2) fun w2 hi2 e1 e2 e3 e4 e5 => ⟨m', γ', _, ob', h1, h2, tr w2 e1 e2 e3 e4 e5, hi2, hk⟩
  | outgrown => cases x <;> exact h2.elim
end Go.Am
