/-
  An abstract machine, part I: structs and slices built; append.
-/
import Derived.Test.YtobehholoenaiaaGreatDoorAmH
namespace Go.Am

/-- parts of a literal: their places, their values -/
inductive EvP (L : Loc) : List (Nat × Operand) → List (Nat × AV) → List (Operand × AV) → Prop
  | nil : EvP L [] [] []
  | cons {i : Nat} {x : Operand} {av : AV} {ps : List (Nat × Operand)} {avs : List (Nat × AV)} {xs : List (Operand × AV)} (h : aeval L x = some av) (r : EvP L ps avs xs) : EvP L ((i, x) :: ps) ((i, av) :: avs) ((x, av) :: xs)
/-- operands, their values -/
inductive EvA (L : Loc) : List Operand → List AV → List (Operand × AV) → Prop
  | nil : EvA L [] [] []
  | cons {x : Operand} {av : AV} {ps : List Operand} {avs : List AV} {xs : List (Operand × AV)} (h : aeval L x = some av) (r : EvA L ps avs xs) : EvA L (x :: ps) (av :: avs) ((x, av) :: xs)
theorem evP_all {L : Loc} {ps : List (Nat × Operand)} {avs : List (Nat × AV)} {xs : List (Operand × AV)} (h : EvP L ps avs xs) : EvalAll L xs := by
  induction h with
  | nil => trivial
  | cons h _ ih => exact ⟨h, ih⟩
theorem evA_all {L : Loc} {ps : List Operand} {avs : List AV} {xs : List (Operand × AV)} (h : EvA L ps avs xs) : EvalAll L xs := by
  induction h with
  | nil => trivial
  | cons h _ ih => exact ⟨h, ih⟩
theorem evA_reps {L : Loc} {m : Mem} {γ : Gam} {a : Act} {ps : List Operand} {avs : List AV} {xs : List (Operand × AV)} (h : EvA L ps avs xs) (hr : RepXs m γ a xs) : RepVals m γ avs (ps.map a.eval) := by
  induction h with
  | nil => simp [RepVals]
  | cons h _ ih => simp only [List.map_cons, RepVals]; exact ⟨_, _, rfl, hr.1, ih hr.2⟩

def fillA (place : List (Nat × Nat)) : List AV → List (Nat × AV) → Option (List AV)
  | cells, [] => some cells
  | cells, (i, av) :: r => match place[i]?, acells av with
    | some (off, size), some cs => cond (Nat.beq cs.length size && Nat.ble (off + size) cells.length) (fillA place (spl cells off cs) r) none
    | _, _ => none
theorem foldl_set_get : ∀ (vs : List Value) (k off : Nat) (cur : Array Value) (p : Nat),
    ((vs.zipIdx k).foldl (fun cs q => cs.setIfInBounds (off + q.2) q.1) cur)[p]? = if off + k ≤ p ∧ p < off + k + vs.length ∧ p < cur.size then vs[p - (off + k)]? else cur[p]?
  | [], k, off, cur, p => by simp; omega
  | v :: vs, k, off, cur, p => by
    simp only [List.zipIdx_cons, List.foldl_cons]
    rw [foldl_set_get vs (k + 1) off]
    simp only [Array.size_setIfInBounds, List.length_cons]
    by_cases h1 : p = off + k
    · subst h1
      rw [if_neg (by omega)]
      by_cases h2 : off + k < cur.size
      · rw [if_pos ⟨by omega, by omega, h2⟩, Array.getElem?_setIfInBounds_self_of_lt h2]; simp
      · rw [if_neg (by omega)]
        rw [Array.getElem?_eq_none (by simp; omega), Array.getElem?_eq_none (by omega)]
    · rw [Array.getElem?_setIfInBounds_ne (fun e => h1 e.symm)]
      by_cases h2 : off + (k + 1) ≤ p ∧ p < off + (k + 1) + vs.length ∧ p < cur.size
      · rw [if_pos h2, if_pos ⟨by omega, by omega, h2.2.2⟩, show p - (off + k) = (p - (off + (k + 1))) + 1 from by omega]; simp
      · rw [if_neg h2, if_neg (by omega)]
theorem fill_reps {m : Mem} {γ : Gam} {a : Act} {L : Loc} {place : List (Nat × Nat)} {ps : List (Nat × Operand)} {avs : List (Nat × AV)} {xs : List (Operand × AV)} (hp : EvP L ps avs xs) (hr : RepXs m γ a xs) :
    ∀ {cells cells' : List AV} {cur : Array Value}, RepVals m γ cells cur.toList → fillA place cells avs = some cells' → ∃ cur', Instr.fill (place.toArray[·]?) cur (ps.map fun p => (p.1, a.eval p.2)) = some cur' ∧ RepVals m γ cells' cur'.toList := by
  induction hp with
  | nil => intro cells cells' cur hc hf; simp only [fillA, Option.some.injEq] at hf; subst hf; exact ⟨cur, rfl, hc⟩
  | @cons i x av ps avs xs h _ ih =>
    intro cells cells' cur hc hf
    simp only [fillA] at hf
    cases hpl : place[i]? with
    | none => simp [hpl] at hf
    | some q =>
      obtain ⟨off, size⟩ := q
      cases hac : acells av with
      | none => simp [hpl, hac] at hf
      | some cs =>
        simp only [hpl, hac] at hf
        cases hb : Nat.beq cs.length size && Nat.ble (off + size) cells.length with
        | false => rw [hb] at hf; cases hf
        | true =>
          rw [hb] at hf
          simp only [cond_true] at hf
          simp only [Bool.and_eq_true] at hb
          have hb1 := Nat.eq_of_beq_eq_true hb.1
          have hb2 := Nat.le_of_ble_eq_true hb.2
          obtain ⟨r1, r2⟩ := rep_acells hr.1 hac
          have hl1 := repVals_length r1
          have hl2 := repVals_length hc
          simp at hl1 hl2
          rw [spl_eq (by omega)] at hf
          have hsp : RepVals m γ (splice cells off cs) (((a.eval x).cells.zipIdx.foldl (fun cs (c, j) => cs.setIfInBounds (off + j) c) cur).toList) := by
            have h1 := splice_reps (off := off) hc r1
            have h2 : ((a.eval x).cells.zipIdx.foldl (fun cs (c, j) => cs.setIfInBounds (off + j) c) cur).toList = cur.toList.take off ++ (a.eval x).cells.toList ++ cur.toList.drop (off + (a.eval x).cells.toList.length) := by
              rw [← Array.foldl_toList, Array.toList_zipIdx]
              apply List.ext_getElem?
              intro p
              rw [Array.getElem?_toList, foldl_set_get]
              simp only [Nat.add_zero, Array.length_toList]
              by_cases h3 : p < off
              · rw [if_neg (by omega), List.append_assoc, List.getElem?_append_left (by simp; omega)]
                simp [h3]
              · rw [List.append_assoc, List.getElem?_append_right (by simp; omega)]
                simp only [List.length_take, Array.length_toList]
                rw [show min off cur.size = off from by omega]
                by_cases h4 : p - off < (a.eval x).cells.size
                · rw [if_pos ⟨by omega, by omega, by omega⟩, List.getElem?_append_left (by simpa using h4)]
                · rw [if_neg (by omega), List.getElem?_append_right (by simp; omega), List.getElem?_drop]
                  simp only [Array.length_toList, Array.getElem?_toList]
                  congr 1
                  omega
            rw [h2]; exact h1
          obtain ⟨cur', k1, k2⟩ := ih hr.2 hsp hf
          refine ⟨cur', ?_, k2⟩
          have hcond : ¬ ((decide ((a.eval x).cells.size ≠ size) || decide (off + (a.eval x).cells.size > cur.size)) = true) := by simp; omega
          simp only [List.map_cons, Instr.fill, List.getElem?_toArray, hpl]
          rw [if_neg hcond]
          simpa using k1

/-- a struct's fields (places, cells), its zero value's cells -/
def flds (P : Program) (t : TypeId) : Option (List (Nat × Nat) × List Value) := match P.info? t, P.underlying t with
  | some it, some (.struct fields) => match it.zero, fields.toList.mapM (fun f => (P.info? f.type).map fun i => (f.offset, i.size)) with
    | some z, some places => some (places, z.cells.toList)
    | _, _ => none
  | _, _ => none

section
variable {P : Program} {n : Nat} {ops : Array Oper} {l : List Oper} {L : Loc} {ob : List Ob} {kf : List Rec → Loc → List Ob → Prop} {gu : Loc}
variable {dst : Option Nat} {ty : TypeId} {pos : String} {after : Array Edge} {guard : Option (Nat × Bool)}
theorem ev_build {t : TypeId} {ps : List (Nat × Operand)} {avs : List (Nat × AV)} {xs : List (Operand × AV)} {pl : List (Nat × Nat)} {zs : List Value} {cells : List AV} (ht : flds P t = some (pl, zs)) (hp : EvP L ps avs xs) (hf : fillA pl (zs.map .v) avs = some cells)
    (hg : Gd ops L guard gu) (hn : ∀ d, dst = some d → d < n)
    (kk : EvK P n ops l (updL L dst (.ag cells) []) ob (fun recs => kf (⟨dst, gu ++ uses xs, .ag cells, [], .pure⟩ :: recs))) :
    EvK P n ops (⟨dst, .build t ps.toArray, ty, pos, after, guard⟩ :: l) L ob kf :=
  ev_val0 (o := ⟨dst, .build t ps.toArray, ty, pos, after, guard⟩) xs (evP_all hp) hg hn (fun m γ w a _ hr => by
    unfold flds at ht
    cases hi : P.info? t with
    | none => simp [hi] at ht
    | some it =>
      cases hu : P.underlying t with
      | none => simp [hi, hu] at ht
      | some d =>
        cases d with
        | struct fields =>
          simp only [hi, hu] at ht
          cases hz : it.zero with
          | none => simp [hz] at ht
          | some z =>
            cases hm : fields.toList.mapM (fun f => (P.info? f.type).map fun i => (f.offset, i.size)) with
            | none => simp [hz, hm] at ht
            | some places =>
              simp only [hz, hm, Option.some.injEq, Prod.mk.injEq] at ht
              obtain ⟨rfl, rfl⟩ := ht
              obtain ⟨cur', k1, k2⟩ := fill_reps (a := a) hp hr (cur := z.cells) (repVals_plain _) hf
              have hb : P.built t (ps.map fun p => (p.1, a.eval p.2)) = some cur' := by
                unfold Program.built
                simp only [hi, hu, hz, hm]
                exact k1
              have := run_build w t (ps.map fun p => (p.1, a.eval p.2)).toArray cur' (by simpa using hb)
              refine ⟨.agg cur', ?_, by simp only [Rep]; exact ⟨cur'.toList, by simp, k2⟩⟩
              simp only [execOp, List.map_toArray, Sem.run_bind, this, Result.andThen_ok, Sem.run_pure]
        | _ => simp [hi, hu] at ht) kk

/-! ### A slice literal, never written again -/
theorem inv_frozen {m : Mem} {γ : Gam} {w : World} (hi : Inv m γ ob w) {rows : List (List AV)} {S : Nat} {T : TypeId} {cs : Array Value} {fr : Nat × Nat} (hS : ∀ r ∈ rows, r.length = S) (hr : RepVals m γ rows.flatten cs.toList) :
    ∃ m', Inv m' γ ob (w.alloc (.cells cs T fr)) ∧ Trans m γ w m' γ (w.alloc (.cells cs T fr)) ∧ Le m γ [] m' γ ∧ RepRows m' γ S rows w.heap.size 0 := by
  have hfr : ∀ a x, m a = some x → a.block ≠ w.heap.size := by
    intro a x h e
    have := World.block_lt_of_cell? w a (hi.mem a x h)
    omega
  let m' : Mem := ⟨fun a => if a.block = w.heap.size then (if a.spot = none then cs[a.off]? else none) else m a, fun a x h => by rw [if_neg (hfr a x (m.has a x h))]; exact m.has a x h⟩
  have hle : Le m γ [] m' γ := ⟨fun a x h => by simp only [m', if_neg (hfr a x h)]; exact h, fun _ _ h _ => h⟩
  refine ⟨m', ⟨fun a x h => ?_, fun o X hX => ?_, hi.sep, fun o b C h => by have := hi.dom o b C h; simp; omega, hi.len⟩, ?_, hle, ?_⟩
  · by_cases e : a.block = w.heap.size
    · simp only [m', e, if_true] at h
      split at h
      · rename_i hs
        obtain ⟨b, off, sp⟩ := a
        simp only at e hs
        subst e; subst hs
        have hb : (w.alloc (.cells cs T fr)).heap[w.heap.size]? = some (.cells cs T fr) := World.alloc_heap_new w _
        simp only [World.cell?, hb]
        exact h
      · cases h
    · simp only [m', e, if_false] at h
      exact mem_alloc hi _ a x h
  · refine obAt_le0 (hi.obj o X hX) hle (fun b C hb => alloc_old w _ (hi.dom o b C hb)) fun b C hb off hn => ?_
    have := hi.dom o b C hb
    simp only [m', show b ≠ w.heap.size by omega, if_false]; exact hn
  · refine ⟨fun a x h => hle.mem a x h, fun a x h => ?_, fun _ _ h => h, rfl, rfl, rfl, by simp, fun k hk _ => alloc_old w _ hk⟩
    by_cases e : a.block = w.heap.size
    · exact .inr (.inl (by omega))
    · simp only [m', e, if_false] at h; exact .inl h
  · have hr' := reps_le0 hle hr
    have key : ∀ (rows : List (List AV)) (off : Nat), (∀ r ∈ rows, r.length = S) → RepVals m' γ rows.flatten (cs.toList.drop off) → RepRows m' γ S rows w.heap.size off := by
      intro rows
      induction rows with
      | nil => intro _ _ _; simp [RepRows]
      | cons r rs ih =>
        intro off hS hr
        simp only [List.flatten_cons] at hr
        have hrl := hS r (by simp)
        simp only [RepRows]
        refine ⟨hrl, repCells_of_get fun i c hc => ?_, ih (off + S) (fun q hq => hS q (List.mem_cons_of_mem _ hq)) ?_⟩
        · have hlt := (List.getElem?_eq_some_iff.1 hc).1
          obtain ⟨x, hx, hrx⟩ := repVals_get hr i c (by rw [List.getElem?_append_left hlt]; exact hc)
          rw [List.getElem?_drop] at hx
          exact ⟨x, by simp only [m', if_true]; simpa using hx, hrx⟩
        · have := repVals_drop hr S
          rw [← hrl, List.drop_left, List.drop_drop] at this
          rw [← hrl]; exact this
    exact key rows 0 hS (by simpa using hr')

/-- the rows of a literal whose parts are all there, in order -/
def rowsOf (S : Nat) : Nat → List (Nat × AV) → Option (List (List AV))
  | _, [] => some []
  | k, (i, av) :: r => match acells av, rowsOf S (k + 1) r with
    | some cs, some rows => cond (Nat.beq i k && Nat.beq cs.length S) (some (cs :: rows)) none
    | _, _ => none
theorem rowsOf_len {S : Nat} : ∀ {avs : List (Nat × AV)} {k : Nat} {rows : List (List AV)}, rowsOf S k avs = some rows → rows.length = avs.length ∧ ∀ r ∈ rows, r.length = S
  | [], k, rows, h => by simp only [rowsOf, Option.some.injEq] at h; subst h; simp
  | (i, av) :: r, k, rows, h => by
    simp only [rowsOf] at h
    cases hac : acells av with
    | none => simp [hac] at h
    | some cs =>
      cases hr : rowsOf S (k + 1) r with
      | none => simp [hac, hr] at h
      | some rs =>
        simp only [hac, hr] at h
        cases hb : Nat.beq i k && Nat.beq cs.length S with
        | false => rw [hb] at h; cases h
        | true =>
          rw [hb] at h
          simp only [cond_true, Option.some.injEq] at h
          subst h
          simp only [Bool.and_eq_true] at hb
          obtain ⟨h1, h2⟩ := rowsOf_len hr
          refine ⟨by simp [h1], fun q hq => ?_⟩
          rcases List.mem_cons.1 hq with e | e
          · subst e; exact Nat.eq_of_beq_eq_true hb.2
          · exact h2 q e
theorem fill_rows {m : Mem} {γ : Gam} {a : Act} {L : Loc} {S : Nat} {ps : List (Nat × Operand)} {avs : List (Nat × AV)} {xs : List (Operand × AV)} (hp : EvP L ps avs xs) (hr : RepXs m γ a xs) :
    ∀ {k : Nat} {rows : List (List AV)} {cur : Array Value}, rowsOf S k avs = some rows → cur.size = (k + avs.length) * S →
      ∃ cur' : Array Value, Instr.fill (fun i => some (i * S, S)) cur (ps.map fun p => (p.1, a.eval p.2)) = some cur' ∧ ∃ ys, RepVals m γ rows.flatten ys ∧ cur'.toList = cur.toList.take (k * S) ++ ys := by
  induction hp with
  | nil =>
    intro k rows cur h hc
    simp only [rowsOf, Option.some.injEq] at h; subst h
    refine ⟨cur, rfl, [], by simp [RepVals], ?_⟩
    simp only [List.append_nil]
    rw [List.take_of_length_le]; simp at hc; simp [hc]
  | @cons i x av ps avs xs h _ ih =>
    intro k rows cur hro hc
    simp only [rowsOf] at hro
    cases hac : acells av with
    | none => simp [hac] at hro
    | some cs =>
      cases hrs : rowsOf S (k + 1) avs with
      | none => simp [hac, hrs] at hro
      | some rs =>
        simp only [hac, hrs] at hro
        cases hb : Nat.beq i k && Nat.beq cs.length S with
        | false => rw [hb] at hro; cases hro
        | true =>
          rw [hb] at hro
          simp only [cond_true, Option.some.injEq] at hro
          subst hro
          simp only [Bool.and_eq_true] at hb
          have hik := Nat.eq_of_beq_eq_true hb.1
          have hcS := Nat.eq_of_beq_eq_true hb.2
          subst hik
          obtain ⟨r1, r2⟩ := rep_acells hr.1 hac
          have hl1 := repVals_length r1
          simp at hl1
          have hsz : i * S + S ≤ cur.size := by
            rw [hc]
            have : (i + 1) * S ≤ (i + (avs.length + 1)) * S := Nat.mul_le_mul_right _ (by omega)
            rw [Nat.add_mul] at this
            simp only [List.length_cons]; omega
          obtain ⟨mid, hmid⟩ : ∃ mid, mid = (a.eval x).cells.zipIdx.foldl (fun cs (c, j) => cs.setIfInBounds (i * S + j) c) cur := ⟨_, rfl⟩
          have hget : ∀ p, mid[p]? = if i * S ≤ p ∧ p < i * S + (a.eval x).cells.size ∧ p < cur.size then (a.eval x).cells[p - i * S]? else cur[p]? := by
            intro p
            have := foldl_set_get (a.eval x).cells.toList 0 (i * S) cur p
            rw [hmid, ← Array.foldl_toList, Array.toList_zipIdx]
            simpa using this
          have hms : mid.size = cur.size := by
            rw [hmid]
            have : ∀ (l : List (Value × Nat)) (c : Array Value), (l.foldl (fun cs q => cs.setIfInBounds (i * S + q.2) q.1) c).size = c.size := by
              intro l
              induction l with
              | nil => intro c; rfl
              | cons q l ihl => intro c; simp only [List.foldl_cons]; rw [ihl]; simp
            rw [← Array.foldl_toList]; exact this _ _
          obtain ⟨cur', k1, ys, k2, k3⟩ := ih hr.2 (k := i + 1) (cur := mid) hrs (by rw [hms, hc]; congr 1; simp only [List.length_cons]; omega)
          refine ⟨cur', ?_, (a.eval x).cells.toList ++ ys, by simp only [List.flatten_cons]; exact repVals_append r1 k2, ?_⟩
          · have hcond : ¬ ((decide ((a.eval x).cells.size ≠ S) || decide (i * S + (a.eval x).cells.size > cur.size)) = true) := by simp; omega
            simp only [List.map_cons, Instr.fill]
            rw [if_neg hcond]
            rw [hmid] at k1
            simpa using k1
          · rw [k3, ← List.append_assoc]
            congr 1
            apply List.ext_getElem?
            intro p
            rw [List.getElem?_take, Array.getElem?_toList, hget]
            by_cases h3 : p < i * S
            · rw [if_pos (by rw [Nat.add_mul]; omega), if_neg (by omega), List.getElem?_append_left (by simp; omega), List.getElem?_take, if_pos h3]; simp
            · rw [List.getElem?_append_right (by simp; omega)]
              simp only [List.length_take, Array.length_toList]
              rw [show min (i * S) cur.size = i * S from by omega]
              by_cases h4 : p < (i + 1) * S
              · rw [Nat.add_mul] at h4
                rw [if_pos (by rw [Nat.add_mul]; omega), if_pos ⟨by omega, by omega, by omega⟩]; simp
              · rw [if_neg h4]
                rw [Nat.add_mul] at h4
                rw [List.getElem?_eq_none (by simp; omega)]

/-- A slice literal: the elements lie in new memory; 'frozen': nobody will write to it. -/
theorem ev_buildSlice {t e : TypeId} {S B : Nat} {zs : List Value} {len : Nat} {ps : List (Nat × Operand)} {avs : List (Nat × AV)} {xs : List (Operand × AV)} {rows : List (List AV)} (ht : slk P t = some (e, S, B)) (hz : zer P e = some zs) (hp : EvP L ps avs xs) (hr : rowsOf S 0 avs = some rows)
    (hlen : avs.length = len) (hsmall : len * S ≤ 2 ^ 24) (hg : Gd ops L guard gu) (hn : ∀ d, dst = some d → d < n)
    (kk : EvK P n ops l (updL L dst (.sl S rows) []) ob (fun recs => kf (⟨dst, gu ++ uses xs, .sl S rows, [], .pure⟩ :: recs))) :
    EvK P n ops (⟨dst, .buildSlice t len ps.toArray, ty, pos, after, guard⟩ :: l) L ob kf :=
  ev_any0 (o := ⟨dst, .buildSlice t len ps.toArray, ty, pos, after, guard⟩) xs (evP_all hp) hg hn (fun ob m γ w a K Q hi hx hK => by
    obtain ⟨hu, inf, g1, g2, _⟩ := slk_elem ht
    obtain ⟨z, hzz⟩ : ∃ z, inf.zero = some z := by
      unfold zer at hz
      rw [g1] at hz
      cases hzz : inf.zero with
      | none => simp [hzz] at hz
      | some z => exact ⟨z, rfl⟩
    have key : ∀ cur : Array Value, cur.size = len * S → ∃ cur' : Array Value, Instr.fill (fun i => some (i * S, S)) cur (ps.map fun p => (p.1, a.eval p.2)) = some cur' ∧ RepVals m γ rows.flatten cur'.toList := by
      intro cur hcur
      obtain ⟨cur', k1, ys, k2, k3⟩ := fill_rows (a := a) hp hx (k := 0) (cur := cur) hr (by simp [hlen, hcur])
      have hcur : cur'.toList = ys := by simpa using k3
      exact ⟨cur', k1, by rw [hcur]; exact k2⟩
    obtain ⟨cur', hrep, hrun⟩ : ∃ cur' : Array Value, RepVals m γ rows.flatten cur'.toList ∧ (execOp a.eval ⟨dst, .buildSlice t len ps.toArray, ty, pos, after, guard⟩).run P w = .ok (.value (.slice (some ⟨w.heap.size, 0, none⟩) len len)) (w.alloc (.cells cur' e)) := by
      by_cases h0 : len * S = 0
      · obtain ⟨cur', k1, k2⟩ := key #[] (by simp [h0])
        refine ⟨cur', k2, ?_⟩
        have hb : (Instr.buildSlice t len (ps.map fun p => (p.1, a.eval p.2)).toArray).run P w = .ok (.slice (some ⟨w.heap.size, 0, none⟩) len len) (w.alloc (.cells cur' e)) := by
          simp only [Instr.buildSlice, Sem.run_bind, run_underlying hu, Result.andThen_ok, sizeOf, typeInfo, run_program, g1, Sem.run_pure, g2, gt_iff_lt, h0, if_true]
          have he : Array.map (fun x => (default : Value)) (Array.range 0) = #[] := Array.eq_empty_of_size_eq_zero (by simp)
          simp [newRow, he, k1]
        simp only [execOp, List.map_toArray, Sem.run_bind, hb, Result.andThen_ok, Sem.run_pure]
      · obtain ⟨cur', k1, k2⟩ := key ((Array.range (len * S)).map (z.cells[· % z.cells.size]!)) (by simp)
        refine ⟨cur', k2, ?_⟩
        have hb := run_buildSlice w t e len (ps.map fun p => (p.1, a.eval p.2)).toArray cur' inf z hu g1 hzz (by rw [g2]; omega) (by rw [g2]; exact h0) (by rw [g2]; exact k1)
        simp only [execOp, List.map_toArray, Sem.run_bind, hb, Result.andThen_ok, Sem.run_pure]
    obtain ⟨hl1, hl2⟩ := rowsOf_len hr
    obtain ⟨m', i1, i2, i3, i4⟩ := inv_frozen hi (S := S) (T := e) hl2 hrep
    unfold Oper.wp
    rw [hrun, Oper.upon_value]
    refine hK m' γ _ _ i2 i3 i1 ?_
    simp only [Rep]
    exact ⟨_, len, len, rfl, by omega, Nat.le_refl _, .inr ⟨w.heap.size, 0, rfl, i4⟩⟩) kk
/-- A new variable that nobody will write to. -/
theorem ev_boxF {T : TypeId} {x : Operand} {av : AV} {cs : List AV} (hx : aeval L x = some av) (hc : acells av = some cs) (hg : Gd ops L guard gu) (hn : ∀ d, dst = some d → d < n)
    (kk : EvK P n ops l (updL L dst (.pf cs) []) ob (fun recs => kf (⟨dst, gu ++ uses [(x, av)], .pf cs, [], .pure⟩ :: recs))) :
    EvK P n ops (⟨dst, .box T x, ty, pos, after, guard⟩ :: l) L ob kf :=
  ev_any0 (o := ⟨dst, .box T x, ty, pos, after, guard⟩) [(x, av)] ⟨hx, trivial⟩ hg hn (fun ob m γ w a K Q hi h hK => by
    have hr := (rep_acells h.1 hc).1
    obtain ⟨m', i1, i2, i3, i4⟩ := inv_frozen hi (S := cs.length) (T := T) (rows := [cs]) (cs := (a.eval x).cells) (fr := (0, 0)) (fun r hr => by simp at hr; rw [hr]) (by simpa using hr)
    have hrun : (execOp a.eval ⟨dst, .box T x, ty, pos, after, guard⟩).run P w = .ok (.value (.pointer (some ⟨w.heap.size, 0, none⟩))) (w.alloc (.cells (a.eval x).cells T)) := by
      simp [execOp, Instr.box, newVar, newRow]
    unfold Oper.wp
    rw [hrun, Oper.upon_value]
    refine hK m' γ _ _ i2 i3 i1 ?_
    simp only [RepRows] at i4
    simp only [Rep]
    exact ⟨w.heap.size, 0, rfl, i4.2.1⟩) kk
end
end Go.Am
