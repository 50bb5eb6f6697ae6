/-
  An abstract machine, part H: stores, structs and slices built, append.
-/
import Derived.Test.YtobehholoenaiaaGreatDoorAmG
namespace Go.Am

def killCell (ks : List Nat) (c : AV) : AV := cond (c.free ks) c .any
def killOb (ks : List Nat) : Ob → Ob
  | .dead => .dead
  | .box T cells => .box T (cells.map (killCell ks))
  | .row T S rows => .row T S (rows.map fun r => r.map (killCell ks))
  | .mp keys vals => .mp keys (vals.map (killCell ks))
  | .lp busy k ts cs => .lp busy k ts (cs.map (killCell ks))
theorem killCell_rep {m m' : Mem} {γ γ' : Gam} {ks : List Nat} (h : Le m γ ks m' γ') {c : AV} {x : Value} (hr : Rep m γ c x) : Rep m' γ' (killCell ks c) x := by
  unfold killCell
  cases hf : c.free ks with
  | true => exact rep_le h c x hf hr
  | false => simp [Rep]
theorem kill_reps {m m' : Mem} {γ γ' : Gam} {ks : List Nat} (h : Le m γ ks m' γ') : ∀ {cs : List AV} {xs : List Value}, RepVals m γ cs xs → RepVals m' γ' (cs.map (killCell ks)) xs
  | [], xs, hr => by simpa [RepVals] using hr
  | c :: cs, xs, hr => by
    simp only [RepVals] at hr
    obtain ⟨x, r, rfl, h2, h3⟩ := hr
    simp only [List.map_cons, RepVals]
    exact ⟨x, r, rfl, killCell_rep h h2, kill_reps h h3⟩
theorem obAt_le {m m' : Mem} {γ γ' : Gam} {w w' : World} {ks : List Nat} {o : Nat} {X : Ob} (h : ObAt m γ w o X) (hle : Le m γ ks m' γ') (hk : ks.contains o = false) (hheap : ∀ b C, γ o = some (some (b, C)) → w'.heap[b]? = w.heap[b]?)
    (hm : ∀ b C, γ o = some (some (b, C)) → ∀ off, m ⟨b, off, none⟩ = none → m' ⟨b, off, none⟩ = none) : ObAt m' γ' w' o (killOb ks X) := by
  cases X with
  | dead => trivial
  | box T cells =>
    obtain ⟨b, cs, h1, h2, h3, h4⟩ := h
    exact ⟨b, cs, hle.gam o _ h1 hk, by rw [hheap b 0 h1]; exact h2, kill_reps hle h3, fun off => hm b 0 h1 off (h4 off)⟩
  | row T S rows =>
    rcases h with ⟨h1, h2⟩ | ⟨b, C, cs, h1, h2, h3, h4, h5, h6, h7, h8⟩
    · exact .inl ⟨hle.gam o _ h1 hk, by subst h2; rfl⟩
    · refine .inr ⟨b, C, cs, hle.gam o _ h1 hk, h2.of_eq (hheap b C h1), h3, by simpa using h4, h5, ?_, ?_, fun off => hm b C h1 off (h8 off)⟩
      · intro r hr
        obtain ⟨q, hq, rfl⟩ := List.mem_map.1 hr
        simpa using h6 q hq
      · have := kill_reps hle h7
        rw [← List.map_flatten]
        simpa using this
  | mp keys vals =>
    obtain ⟨b, es, clock, h1, h2, h3, h4, h5⟩ := h
    exact ⟨b, es, clock, hle.gam o _ h1 hk, by rw [hheap b 0 h1]; exact h2, h3, kill_reps hle h4, fun off => hm b 0 h1 off (h5 off)⟩
  | lp busy k ts cs =>
    obtain ⟨b, r, xs, h1, h2, h3, h4, h5, h6⟩ := h
    exact ⟨b, r, xs, hle.gam o _ h1 hk, by rw [hheap b 0 h1]; exact h2, h3, kill_reps hle h4, h5, fun off => hm b 0 h1 off (h6 off)⟩
theorem Le.refl (m : Mem) (γ : Gam) (ks : List Nat) : Le m γ ks m γ := ⟨fun _ _ h => h, fun _ _ h _ => h⟩

section
variable {P : Program} {m : Mem} {γ : Gam} {ob : List Ob} {w : World}
theorem mem_block (hi : Inv m γ ob w) {b : Nat} (hm : ∀ off, m ⟨b, off, none⟩ = none) {a : Addr} {x : Value} (h : m a = some x) : a.block ≠ b := by
  intro e
  have h1 := hi.mem a x h
  have hs := World.cell?_spot h1
  obtain ⟨bb, off, sp⟩ := a
  simp only at hs e
  subst hs; subst e
  rw [hm off] at h; cases h
/-- One object turns, in place. -/
theorem inv_set (hi : Inv m γ ob w) {o b C : Nat} {X X' : Ob} (ho : ob[o]? = some X) (hX : X ≠ .dead) (hg : γ o = some (some (b, C))) (hm : ∀ off, m ⟨b, off, none⟩ = none) {w' : World} (hother : ∀ k, k ≠ b → w'.heap[k]? = w.heap[k]?)
    (hsz : w'.heap.size = w.heap.size) (hos : w'.os = w.os) (htape : w'.tape = w.tape) (hout : w'.output = w.output) (ks : List Nat) (hX' : ObAt m γ w' o X') :
    Inv m γ ((ob.map (killOb ks)).set o X') w' ∧ Inv m γ (ob.set o X') w' ∧ Trans m γ w m γ w' := by
  have hlen : o < ob.length := (List.getElem?_eq_some_iff.1 ho).1
  have hlv : ∀ (f : Ob → Ob), (∀ Y, f Y = .dead ↔ Y = .dead) → ∀ k, live ((ob.map f).set o X') k → live ob k := by
    rintro f hf k ⟨Y, hY, hne⟩
    by_cases hko : o = k
    · subst hko; exact ⟨X, ho, hX⟩
    · rw [List.getElem?_set_ne hko, List.getElem?_map] at hY
      cases hk : ob[k]? with
      | none => simp [hk] at hY
      | some Z =>
        rw [hk] at hY
        simp only [Option.map_some, Option.some.injEq] at hY
        exact ⟨Z, hk, fun e => hne (by rw [← hY]; exact (hf Z).2 e)⟩
  have gen : ∀ (f : Ob → Ob), (∀ Y, f Y = .dead ↔ Y = .dead) → (∀ k Y, ob[k]? = some Y → k ≠ o → ObAt m γ w' k (f Y)) → Inv m γ ((ob.map f).set o X') w' := by
    intro f hf hob
    refine ⟨fun a x h => ?_, fun k Y hY => ?_, fun k k' b D D' h1 h2 => hi.sep k k' b D D' (hlv f hf k h1) (hlv f hf k' h2), fun k b D h => by rw [hsz]; exact hi.dom k b D h, fun k h => by simpa using hi.len k h⟩
    · rw [World.cell?_of_block (hother _ (mem_block hi hm h))]; exact hi.mem a x h
    · by_cases hko : o = k
      · subst hko
        rw [List.getElem?_set_self (by simpa using hlen)] at hY
        cases hY; exact hX'
      · rw [List.getElem?_set_ne hko, List.getElem?_map] at hY
        cases hk : ob[k]? with
        | none => simp [hk] at hY
        | some Z =>
          rw [hk] at hY
          simp only [Option.map_some, Option.some.injEq] at hY
          subst hY
          exact hob k Z hk (fun e => hko e.symm)
  have heap : ∀ k Y, ob[k]? = some Y → k ≠ o → Y ≠ .dead → ∀ b' C', γ k = some (some (b', C')) → w'.heap[b']? = w.heap[b']? := by
    intro k Y hk hko hYd b' C' hb
    refine hother b' fun e => ?_
    subst e
    exact hko (hi.sep k o b' C' C ⟨Y, hk, hYd⟩ ⟨X, ho, hX⟩ hb hg)
  refine ⟨gen (killOb ks) (fun Y => by cases Y <;> simp [killOb]) ?_, ?_, ?_⟩
  · intro k Y hk hko
    by_cases hYd : Y = .dead
    · subst hYd; trivial
    · have h1 := hi.obj k Y hk
      cases Y with
      | dead => exact absurd rfl hYd
      | box T cells =>
        obtain ⟨b', cs, g1, g2, g3, g4⟩ := h1
        exact ⟨b', cs, g1, by rw [heap k _ hk hko hYd b' 0 g1]; exact g2, kill_reps (Le.refl m γ ks) g3, g4⟩
      | row T S rows =>
        rcases h1 with ⟨g1, g2⟩ | ⟨b', C', cs, g1, g2, g3, g4, g5, g6, g7, g8⟩
        · exact .inl ⟨g1, by subst g2; rfl⟩
        · refine .inr ⟨b', C', cs, g1, g2.of_eq (heap k _ hk hko hYd b' C' g1), g3, by simpa using g4, g5, ?_, ?_, g8⟩
          · intro r hr
            obtain ⟨q, hq, rfl⟩ := List.mem_map.1 hr
            simpa using g6 q hq
          · have := kill_reps (Le.refl m γ ks) g7
            rw [← List.map_flatten]
            simpa using this
      | mp keys vals =>
        obtain ⟨b', es, clock, g1, g2, g3, g4, g5⟩ := h1
        exact ⟨b', es, clock, g1, by rw [heap k _ hk hko hYd b' 0 g1]; exact g2, g3, kill_reps (Le.refl m γ ks) g4, g5⟩
      | lp busy kc ts cs =>
        obtain ⟨b', r, xs, g1, g2, g3, g4, g5, g6⟩ := h1
        exact ⟨b', r, xs, g1, by rw [heap k _ hk hko hYd b' 0 g1]; exact g2, g3, kill_reps (Le.refl m γ ks) g4, g5, g6⟩
  · have := gen id (fun Y => Iff.rfl) fun k Y hk hko => by
      by_cases hYd : Y = .dead
      · subst hYd; trivial
      · exact obAt_le0 (hi.obj k Y hk) (Le.refl m γ []) (heap k Y hk hko hYd) (fun _ _ _ _ h => h)
    simpa using this
  · refine ⟨fun _ _ h => h, fun _ _ h => .inl h, fun _ _ h => h, hos, htape, hout, by omega, fun k hk hn => hother k fun e => hn ⟨o, C, by rw [e]; exact hg⟩⟩
/-- One object moves to a new block. -/
theorem inv_move (hi : Inv m γ ob w) {o C : Nat} {X X' : Ob} (ho : ob[o]? = some X) (hX : X ≠ .dead) {w' : World} (hheap : ∀ k, k < w.heap.size → w'.heap[k]? = w.heap[k]?) (hsz : w'.heap.size = w.heap.size + 1)
    (hos : w'.os = w.os) (htape : w'.tape = w.tape) (hout : w'.output = w.output) (hX' : ObAt m (addG γ o w.heap.size C) w' o X') :
    Inv m (addG γ o w.heap.size C) ((ob.map (killOb [o])).set o X') w' ∧ Trans m γ w m (addG γ o w.heap.size C) w' ∧ Le m γ [o] m (addG γ o w.heap.size C) := by
  have hlen : o < ob.length := (List.getElem?_eq_some_iff.1 ho).1
  have hle : Le m γ [o] m (addG γ o w.heap.size C) := by
    refine ⟨fun _ _ h => h, fun k g hg hk => ?_⟩
    have : k ≠ o := by simpa using hk
    simp [addG, this, hg]
  have hold : ∀ k, k ≠ o → addG γ o w.heap.size C k = γ k := fun k hk => by simp [addG, hk]
  have hlv : ∀ k, live ((ob.map (killOb [o])).set o X') k → live ob k := by
    rintro k ⟨Y, hY, hne⟩
    by_cases hko : o = k
    · subst hko; exact ⟨X, ho, hX⟩
    · rw [List.getElem?_set_ne hko, List.getElem?_map] at hY
      cases hk : ob[k]? with
      | none => simp [hk] at hY
      | some Z =>
        rw [hk] at hY
        simp only [Option.map_some, Option.some.injEq] at hY
        exact ⟨Z, hk, fun e => hne (by rw [← hY, e]; rfl)⟩
  refine ⟨⟨fun a x h => ?_, fun k Y hY => ?_, fun k k' b D D' h1 h2 h3 h4 => ?_, fun k b D h => ?_, fun k h => ?_⟩, ?_, hle⟩
  · have h1 := hi.mem a x h
    rw [World.cell?_of_block (hheap _ (World.block_lt_of_cell? w a h1))]; exact h1
  · by_cases hko : o = k
    · subst hko
      rw [List.getElem?_set_self (by simpa using hlen)] at hY
      cases hY; exact hX'
    · rw [List.getElem?_set_ne hko, List.getElem?_map] at hY
      cases hk : ob[k]? with
      | none => simp [hk] at hY
      | some Z =>
        rw [hk] at hY
        simp only [Option.map_some, Option.some.injEq] at hY
        subst hY
        exact obAt_le (hi.obj k Z hk) hle (by simpa using fun e => hko e.symm) (fun b D hb => hheap b (hi.dom k b D hb)) (fun _ _ _ _ h => h)
  · by_cases e1 : k = o
    · by_cases e2 : k' = o
      · rw [e1, e2]
      · rw [hold k' e2] at h4
        rw [e1] at h3
        simp only [addG, if_true, Option.some.injEq, Prod.mk.injEq] at h3
        have := hi.dom _ _ _ h4
        omega
    · rw [hold k e1] at h3
      by_cases e2 : k' = o
      · rw [e2] at h4
        simp only [addG, if_true, Option.some.injEq, Prod.mk.injEq] at h4
        have := hi.dom _ _ _ h3
        omega
      · rw [hold k' e2] at h4
        exact hi.sep k k' b D D' (hlv k h1) (hlv k' h2) h3 h4
  · rw [hsz]
    by_cases e : k = o
    · subst e
      simp only [addG, if_true, Option.some.injEq, Prod.mk.injEq] at h
      omega
    · rw [hold k e] at h
      have := hi.dom _ _ _ h
      omega
  · by_cases e : k = o
    · subst e; simpa using hlen
    · rw [hold k e] at h
      simpa using hi.len k h
  · refine ⟨fun _ _ h => h, fun _ _ h => .inl h, ?_, hos, htape, hout, by omega, fun k hk _ => hheap k hk⟩
    rintro k hk ⟨j, D, h⟩
    by_cases e : j = o
    · subst e
      simp only [addG, if_true, Option.some.injEq, Prod.mk.injEq] at h
      omega
    · rw [hold j e] at h
      exact ⟨j, D, h⟩
theorem splice_reps {cells cs : List AV} {xs ys : List Value} {off : Nat} (h : RepVals m γ cells xs) (k : RepVals m γ cs ys) : RepVals m γ (splice cells off cs) (xs.take off ++ ys ++ xs.drop (off + ys.length)) := by
  have hl := repVals_length k
  unfold splice
  rw [← hl]
  exact repVals_append (repVals_append (repVals_take h off) k) (repVals_drop h _)
theorem run_storeCells_CA (P : Program) (g o : Nat) (t : TypeId) (fz : Nat × Nat) : ∀ (vs : List Value) (i : Nat) (cur : Array Value) (w : World), w.heap[g]? = some (.cells cur t fz) → (fz = (0, 0) ∨ fz.1 = cur.size) → o + i + vs.length ≤ cur.size → (∀ v ∈ vs, v.oneCell' = true) →
    (storeCells ⟨g, o, none⟩ vs i).run P w = .ok () (w.setRow g (cur.toList.take (o + i) ++ vs ++ cur.toList.drop (o + i + vs.length)).toArray)
  | [], i, cur, w, hg, _, _, _ => by
    simp only [storeCells, List.append_nil, List.length_nil, Nat.add_zero, List.take_append_drop, Array.toArray_toList]
    rw [setRow_self w g cur t fz hg]
    rfl
  | v :: rest, i, cur, w, hg, hfz, hl, h1 => by
    have hi : o + i < cur.size := by simp at hl; omega
    have hadd : (⟨g, o, none⟩ : Addr).add i = ⟨g, o + i, none⟩ := by unfold Addr.add; split <;> simp_all
    have hcell : w.cell? ⟨g, o + i, none⟩ = some cur[o + i] := by simp [World.cell?, hg, hi]
    have hfro : w.frozen? ⟨g, o + i, none⟩ = false := by
      obtain ⟨lo, hi'⟩ := fz
      simp only [World.frozen?, hg, Bool.and_eq_false_iff, decide_eq_false_iff_not]
      rcases hfz with e | e
      · right; cases e; omega
      · left; simp only at e; omega
    have hst : (store ((⟨g, o, none⟩ : Addr).add i) v).run P w = .ok () (w.setRow g (cur.setIfInBounds (o + i) v)) := by
      rw [hadd, run_store P w _ v _ (h1 v (by simp)), hcell]
      simp [hfro, setCell_eq_setRow w g (o + i) cur t fz v hg]
    have ih := run_storeCells_CA P g o t fz rest (i + 1) (cur.setIfInBounds (o + i) v) (w.setRow g (cur.setIfInBounds (o + i) v)) (setRow_heap w g cur _ t _ hg) (by simpa using hfz) (by simp at hl ⊢; omega) (fun x hx => h1 x (by simp [hx]))
    simp only [storeCells, Sem.run_bind, hst, Result.andThen_ok, ih, setRow_setRow]
    congr 3
    have e := list_seg_step cur.toList (o + i) v rest (by simp at hl ⊢; omega)
    simpa [Array.toList_setIfInBounds, Nat.add_assoc] using e
theorem CA.setRow {w : World} {b : Nat} {cur arr : Array Value} {T : TypeId} (h : CA w b cur T) (hs : arr.size = cur.size) : CA (w.setRow b arr) b arr T := by
  obtain ⟨fr, h1, h2⟩ := h
  exact ⟨fr, setRow_heap w b cur arr T fr h1, h2.imp id fun e => e.trans hs.symm⟩
theorem run_storeVar {t : TypeId} {g : Bool} {k : Nat} (h : tyk P t = some (g, k)) {b off : Nat} {cur : Array Value} {T : TypeId} (hg : CA w b cur T) {x : Value} (hs : x.cells.size = k) (h1 : ∀ u ∈ x.cells.toList, u.oneCell' = true) (hfit : off + k ≤ cur.size) :
    ∃ arr : Array Value, arr.toList = cur.toList.take off ++ x.cells.toList ++ cur.toList.drop (off + x.cells.toList.length) ∧ (storeVar t ⟨b, off, none⟩ x).run P w = .ok () (w.setRow b arr) := by
  obtain ⟨fr, hg1, hg2⟩ := hg
  have hst := run_storeCells_CA P b off T fr x.cells.toList 0 cur w hg1 hg2 (by simpa [hs] using hfit) h1
  simp only [Nat.add_zero] at hst
  exact ⟨_, List.toList_toArray, by simp [storeVar, run_sizeOf h, hs, hst]⟩
end

theorem flatten_len {S : Nat} : ∀ {q : List (List AV)}, (∀ r ∈ q, r.length = S) → q.flatten.length = q.length * S
  | [], _ => by simp
  | r :: q, h => by
    simp only [List.flatten_cons, List.length_append, List.length_cons]
    rw [flatten_len (fun r' hr' => h r' (List.mem_cons_of_mem _ hr')), h r (by simp), Nat.add_mul]; omega
theorem flatten_set {S : Nat} {cs row : List AV} {j : Nat} : ∀ {rows : List (List AV)} {i : Nat}, (∀ r ∈ rows, r.length = S) → rows[i]? = some row → j + cs.length ≤ S → (rows.set i (splice row j cs)).flatten = splice rows.flatten (i * S + j) cs
  | [], i, _, h, _ => by simp at h
  | r :: rs, 0, hS, h, hj => by
    simp at h; subst h
    have := hS r (by simp)
    simp only [List.set_cons_zero, List.flatten_cons, Nat.zero_mul, Nat.zero_add, splice]
    rw [List.take_append_of_le_length (by omega), List.drop_append_of_le_length (by omega)]
    simp [List.append_assoc]
  | r :: rs, i + 1, hS, h, hj => by
    have hr := hS r (by simp)
    have ih := flatten_set (rows := rs) (i := i) (fun q hq => hS q (List.mem_cons_of_mem _ hq)) (by simpa using h) hj
    rw [List.set_cons_succ, List.flatten_cons, ih]
    simp only [splice, List.flatten_cons]
    rw [show (i + 1) * S + j = r.length + (i * S + j) from by rw [Nat.add_mul]; omega, Nat.add_assoc r.length, List.take_length_add_append, List.drop_length_add_append]
    simp [List.append_assoc]
theorem flatten_row {S : Nat} {row : List AV} : ∀ {rows : List (List AV)} {i : Nat}, (∀ r ∈ rows, r.length = S) → rows[i]? = some row → (rows.flatten.drop (i * S)).take S = row
  | [], i, _, h => by simp at h
  | r :: rs, 0, hS, h => by
    simp at h; subst h
    have := hS r (by simp)
    simp only [List.flatten_cons, Nat.zero_mul, List.drop_zero]
    rw [← this, List.take_left]
  | r :: rs, i + 1, hS, h => by
    have hr := hS r (by simp)
    have ih := flatten_row (rows := rs) (i := i) (fun q hq => hS q (List.mem_cons_of_mem _ hq)) (by simpa using h)
    simp only [List.flatten_cons]
    rw [show (i + 1) * S = r.length + i * S from by rw [Nat.add_mul]; omega, List.drop_length_add_append]
    exact ih
theorem take_splice {cur xs : List Value} {off N : Nat} (h : off + xs.length ≤ N) (hN : N ≤ cur.length) : (cur.take off ++ xs ++ cur.drop (off + xs.length)).take N = (cur.take N).take off ++ xs ++ (cur.take N).drop (off + xs.length) := by
  have hA : (cur.take N).length = N := by simp; omega
  have hcur := List.take_append_drop N cur
  generalize cur.take N = A at hA hcur ⊢
  generalize cur.drop N = B at hcur
  subst hcur
  have e1 : (A ++ B).take off = A.take off := List.take_append_of_le_length (by omega)
  have e2 : (A ++ B).drop (off + xs.length) = A.drop (off + xs.length) ++ B := List.drop_append_of_le_length (by omega)
  rw [e1, e2, ← List.append_assoc]
  refine (List.take_append_of_le_length (by simp; omega)).trans (List.take_of_length_le (by simp; omega))

section
variable {P : Program} {n : Nat} {ops : Array Oper} {l : List Oper} {L : Loc} {ob : List Ob} {kf : List Rec → Loc → List Ob → Prop} {gu : Loc}
variable {dst : Option Nat} {ty : TypeId} {pos : String} {after : Array Edge} {guard : Option (Nat × Bool)}
theorem upon_skip' {o : Oper} {a : Act} {K : Act → World → Prop} {Q : Exit → Act → World → Prop} {w w' : World} (h : (execOp a.eval o).run P w = .ok .skip w') (hk : K (a.put o.dst undef) w') : o.wp P a w K Q := by
  unfold Oper.wp
  rw [h, Oper.upon_skip]; exact hk
theorem ev_store_box (cells' : List AV) (ob1 : List Ob) {T : TypeId} {p x : Operand} {av : AV} {g : Bool} {k o off : Nat} {Tb : TypeId} {cells cs : List AV} (ht : tyk P T = some (g, k)) (hp : aeval L p = some (.pt o off)) (hx : aeval L x = some av) (hc : acells av = some cs) (hlen : cs.length = k)
    (ho : ob[o]? = some (.box Tb cells)) (hfit : off + k ≤ cells.length) (hsp : spl cells off cs = cells') (hob : ob.set o (.box Tb cells') = ob1) (hg : Gd ops L guard gu) (hn : ∀ d, dst = some d → d < n)
    (kk : EvK P n ops l (updL L dst .any []) ob1 (fun recs => kf (⟨dst, gu ++ uses [(p, .pt o off), (x, av)], .any, [], .st o (.box Tb cells) (.box Tb cells')⟩ :: recs))) :
    EvK P n ops (⟨dst, .store T p x, ty, pos, after, guard⟩ :: l) L ob kf :=
  by
  rw [spl_eq (by omega)] at hsp
  subst hob; subst hsp
  exact ev_st (o := ⟨dst, .store T p x, ty, pos, after, guard⟩) ho [(p, .pt o off), (x, av)] ⟨hp, hx, trivial⟩ hg hn (fun ob m γ w a K Q ho hi h hK => by
    obtain ⟨h1, h2, _⟩ := h
    obtain ⟨b, C, g1, g2⟩ := rep_ptr h1
    obtain ⟨b', cur, k1, k2, k3, k4⟩ := hi.obj o _ ho
    rw [g1] at k1; cases k1
    obtain ⟨r1, r2⟩ := rep_acells h2 hc
    have hl1 := repVals_length r1
    have hl2 := repVals_length k3
    obtain ⟨arr, ha, hst⟩ := run_storeVar (P := P) ht (CA.of_plain k2) (x := a.eval x) (by simpa [hlen] using hl1) (reps_one r1 r2) (off := off) (by simp at hl2; omega)
    have hsp := splice_reps (off := off) k3 r1
    rw [← ha] at hsp
    obtain ⟨_, i2, i3⟩ := inv_set hi (X' := .box Tb (splice cells off cs)) ho (by simp) g1 k4 (fun q hq => setRow_other w b q _ hq) (by simp [World.setRow]) rfl rfl rfl []
      ⟨b, arr, g1, setRow_heap w b cur _ Tb (0, 0) k2, hsp, k4⟩
    refine upon_skip' ?_ (hK m γ _ undef i3 (Le.refl _ _ _) i2 (by simp [Rep]))
    simp only [execOp, g2, Instr.storeAt, Instr.sureAddr, Sem.run_bind, Sem.run_pure, Result.andThen_ok, hst]) kk

/-- a store into a live row: into row i, from its cell j on -/
theorem ev_store_row {T E : TypeId} {p x : Operand} {av : AV} {g : Bool} {k o off S i j : Nat} {rows : List (List AV)} {row cs : List AV} (ht : tyk P T = some (g, k)) (hp : aeval L p = some (.pt o off)) (hx : aeval L x = some av) (hc : acells av = some cs) (hlen : cs.length = k)
    (ho : ob[o]? = some (.row E S rows)) (hoff : off = i * S + j) (hrow : rows[i]? = some row) (hfit : j + k ≤ S) (hg : Gd ops L guard gu) (hn : ∀ d, dst = some d → d < n)
    (kk : EvK P n ops l (updL L dst .any []) (ob.set o (.row E S (rows.set i (splice row j cs)))) (fun recs => kf (⟨dst, gu ++ uses [(p, .pt o off), (x, av)], .any, [], .st o (.row E S rows) (.row E S (rows.set i (splice row j cs)))⟩ :: recs))) :
    EvK P n ops (⟨dst, .store T p x, ty, pos, after, guard⟩ :: l) L ob kf :=
  ev_st (o := ⟨dst, .store T p x, ty, pos, after, guard⟩) ho [(p, .pt o off), (x, av)] ⟨hp, hx, trivial⟩ hg hn (fun ob m γ w a K Q ho hi h hK => by
    obtain ⟨h1, h2, _⟩ := h
    obtain ⟨b, C, g1, g2⟩ := rep_ptr h1
    have hil : i < rows.length := (List.getElem?_eq_some_iff.1 hrow).1
    rcases hi.obj o _ ho with ⟨_, e⟩ | ⟨b', C', cur, k1, k2, k3, k4, k5, k6, k7, k8⟩
    · rw [e] at hil; simp at hil
    rw [g1] at k1; cases k1
    obtain ⟨r1, r2⟩ := rep_acells h2 hc
    have hl1 := repVals_length r1
    have hSr : row.length = S := k6 row (List.mem_of_getElem? hrow)
    have hiS : i * S + S ≤ rows.length * S := by
      have : (i + 1) * S ≤ rows.length * S := Nat.mul_le_mul_right _ hil
      rw [Nat.add_mul] at this; omega
    have hCS : rows.length * S ≤ C * S := Nat.mul_le_mul_right _ k4
    obtain ⟨arr, ha, hst⟩ := run_storeVar (P := P) ht k2 (x := a.eval x) (by simpa [hlen] using hl1) (reps_one r1 r2) (off := off) (by omega)
    have hflat := flatten_set (cs := cs) (j := j) k6 hrow (by omega)
    rw [← hoff] at hflat
    have hN : off + (a.eval x).cells.toList.length ≤ rows.length * S := by omega
    have hsp := splice_reps (off := off) k7 r1
    rw [← take_splice hN (by simp; omega), ← ha, ← hflat] at hsp
    obtain ⟨_, i2, i3⟩ := inv_set hi (X' := .row E S (rows.set i (splice row j cs))) ho (by simp) g1 k8 (fun q hq => setRow_other w b q _ hq) (by simp [World.setRow]) rfl rfl rfl []
      (.inr ⟨b, C, arr, g1, k2.setRow (by
        have : arr.size = arr.toList.length := by simp
        rw [this, ha]
        have : cur.size = cur.toList.length := by simp
        simp only [List.length_append, List.length_take, List.length_drop]
        omega), by
        have : arr.size = arr.toList.length := by simp
        rw [this, ha, ← k3]
        have : cur.size = cur.toList.length := by simp
        simp only [List.length_append, List.length_take, List.length_drop]
        omega, by simpa using k4, k5, fun r hr => by
        rcases List.mem_or_eq_of_mem_set hr with h | h
        · exact k6 r h
        · rw [h]; unfold splice; simp only [List.length_append, List.length_take, List.length_drop]; omega, by simpa using hsp, k8⟩)
    refine upon_skip' ?_ (hK m γ _ undef i3 (Le.refl _ _ _) i2 (by simp [Rep]))
    simp only [execOp, g2, Instr.storeAt, Instr.sureAddr, Sem.run_bind, Sem.run_pure, Result.andThen_ok, hst]) kk

/-! ### Loads out of a live row -/
theorem row_cells {m : Mem} {γ : Gam} {w : World} (hi : Inv m γ ob w) {o S i : Nat} {E : TypeId} {rows : List (List AV)} {row : List AV} (ho : ob[o]? = some (.row E S rows)) (hrow : rows[i]? = some row) {off : Nat} {x : Value} (hx : Rep m γ (.pt o off) x) :
    ∃ b xs, x = .pointer (some ⟨b, off, none⟩) ∧ RepVals m γ row xs ∧ row.length = S ∧ ∀ j v, xs[j]? = some v → w.cell? ⟨b, i * S + j, none⟩ = some v := by
  obtain ⟨b, C, g1, g2⟩ := rep_ptr hx
  have hil : i < rows.length := (List.getElem?_eq_some_iff.1 hrow).1
  rcases hi.obj o _ ho with ⟨_, e⟩ | ⟨b', C', cur, k1, k2, k3, k4, k5, k6, k7, k8⟩
  · rw [e] at hil; simp at hil
  rw [g1] at k1; cases k1
  have hSr : row.length = S := k6 row (List.mem_of_getElem? hrow)
  have hiS : i * S + S ≤ rows.length * S := by
    have : (i + 1) * S ≤ rows.length * S := Nat.mul_le_mul_right _ hil
    rw [Nat.add_mul] at this; omega
  have hr := repVals_take (repVals_drop k7 (i * S)) S
  rw [flatten_row k6 hrow] at hr
  refine ⟨b, _, g2, hr, hSr, fun j v hv => ?_⟩
  rw [List.getElem?_take] at hv
  split at hv
  · rename_i hj
    rw [List.getElem?_drop, List.getElem?_take, if_pos (by omega)] at hv
    rw [k2.cell]; simpa using hv
  · cases hv
theorem ev_load_row_agg {t E : TypeId} {x : Operand} {o off k S i j : Nat} {rows : List (List AV)} {row : List AV} (ht : tyk P t = some (true, k)) (hx : aeval L x = some (.pt o off)) (ho : ob[o]? = some (.row E S rows)) (hoff : off = i * S + j) (hrow : rows[i]? = some row) (hk : j + k ≤ S)
    (hg : Gd ops L guard gu) (hn : ∀ d, dst = some d → d < n)
    (kk : EvK P n ops l (updL L dst (.ag ((row.drop j).take k)) []) ob (fun recs => kf (⟨dst, gu ++ uses [(x, .pt o off)], .ag ((row.drop j).take k), [], .rd o (.row E S rows)⟩ :: recs))) :
    EvK P n ops (⟨dst, .load t x, ty, pos, after, guard⟩ :: l) L ob kf :=
  ev_rd (o := ⟨dst, .load t x, ty, pos, after, guard⟩) ho [(x, .pt o off)] ⟨hx, trivial⟩ hg hn (fun ob m γ w a ho hi h => by
    obtain ⟨b, xs, e1, e2, e3, e4⟩ := row_cells hi ho hrow h.1
    have hr := repVals_take (repVals_drop e2 j) k
    subst hoff
    have := run_loadVar_agg (P := P) (w := w) ht (b := b) (off := i * S + j) (xs := (xs.drop j).take k) (fun q v hv => by
      rw [List.getElem?_take] at hv
      split at hv
      · rw [List.getElem?_drop] at hv
        rw [show i * S + j + q = i * S + (j + q) from by omega]; exact e4 _ v hv
      · cases hv) (by rw [repVals_length hr]; simp; omega)
    exact ⟨_, by simp [execOp, e1, Instr.loadAt, Instr.sureAddr, this]; rfl, by simp only [Rep]; exact ⟨_, rfl, hr⟩⟩) kk
theorem ev_load_row_one {t E : TypeId} {x : Operand} {o off k S i j : Nat} {rows : List (List AV)} {row : List AV} {c : AV} (ht : tyk P t = some (false, k)) (hx : aeval L x = some (.pt o off)) (ho : ob[o]? = some (.row E S rows)) (hoff : off = i * S + j) (hrow : rows[i]? = some row) (hc : row[j]? = some c)
    (hg : Gd ops L guard gu) (hn : ∀ d, dst = some d → d < n)
    (kk : EvK P n ops l (updL L dst c []) ob (fun recs => kf (⟨dst, gu ++ uses [(x, .pt o off)], c, [], .rd o (.row E S rows)⟩ :: recs))) :
    EvK P n ops (⟨dst, .load t x, ty, pos, after, guard⟩ :: l) L ob kf :=
  ev_rd (o := ⟨dst, .load t x, ty, pos, after, guard⟩) ho [(x, .pt o off)] ⟨hx, trivial⟩ hg hn (fun ob m γ w a ho hi h => by
    obtain ⟨b, xs, e1, e2, e3, e4⟩ := row_cells hi ho hrow h.1
    obtain ⟨y, hy, hr⟩ := repVals_get e2 j c hc
    subst hoff
    have := run_loadVar_one (P := P) (w := w) ht (e4 j y hy)
    exact ⟨y, by simp [execOp, e1, Instr.loadAt, Instr.sureAddr, this], hr⟩) kk
end
end Go.Am
