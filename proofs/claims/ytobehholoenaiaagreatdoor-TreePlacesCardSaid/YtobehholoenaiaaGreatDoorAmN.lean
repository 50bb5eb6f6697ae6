/-
  An abstract machine, part N: rows and maps made anew, appends that make a new object of what comes out.
-/
import Derived.Test.YtobehholoenaiaaGreatDoorAmM
namespace Go.Am

section
variable {P : Program} {m : Mem} {γ : Gam} {ob : List Ob} {w : World}
theorem inv_drew (hi : Inv m γ ob w) : Inv m γ ob w.drew ∧ Trans m γ w m γ w.drew := by
  refine ⟨⟨hi.mem, fun o X hX => ?_, hi.sep, hi.dom, hi.len⟩, ⟨fun _ _ h => h, fun _ _ h => .inl h, fun _ _ h => h, rfl, rfl, rfl, Nat.le_refl _, fun _ _ _ => rfl⟩⟩
  have := hi.obj o X hX
  cases X <;> exact this
theorem live_dead {o k : Nat} (h : live (ob.set o .dead) k) : live ob k ∧ k ≠ o := by
  obtain ⟨Y, hY, hne⟩ := h
  by_cases e : o = k
  · subst e
    have := (List.getElem?_eq_some_iff.1 hY).1
    rw [List.length_set] at this
    rw [List.getElem?_set_self this] at hY
    cases hY; exact absurd rfl hne
  · rw [List.getElem?_set_ne e] at hY
    exact ⟨⟨Y, hY, hne⟩, fun h => e h.symm⟩
theorem inv_dead (hi : Inv m γ ob w) (o : Nat) : Inv m γ (ob.set o .dead) w := by
  refine ⟨hi.mem, fun q X hX => ?_, fun q q' b C C' l1 l2 => hi.sep q q' b C C' (live_dead l1).1 (live_dead l2).1, hi.dom, fun q hq => by simpa using hi.len q hq⟩
  by_cases e : o = q
  · subst e
    have := (List.getElem?_eq_some_iff.1 hX).1
    rw [List.length_set] at this
    rw [List.getElem?_set_self this] at hX
    cases hX; trivial
  · rw [List.getElem?_set_ne e] at hX
    exact hi.obj q X hX
/-- An object's block turns, and bears a new number. -/
theorem inv_alias (hi : Inv m γ ob w) {o b C : Nat} {X X' : Ob} (ho : ob[o]? = some X) (hX : X ≠ .dead) (hg : γ o = some (some (b, C))) (hm : ∀ off, m ⟨b, off, none⟩ = none) {w' : World} (hother : ∀ k, k ≠ b → w'.heap[k]? = w.heap[k]?)
    (hsz : w'.heap.size = w.heap.size) (hos : w'.os = w.os) (htape : w'.tape = w.tape) (hout : w'.output = w.output) (C' : Nat) (hX' : ObAt m (addG γ ob.length b C') w' ob.length X') :
    Inv m (addG γ ob.length b C') (ob.set o .dead ++ [X']) w' ∧ Trans m γ w m (addG γ ob.length b C') w' ∧ Le m γ [] m (addG γ ob.length b C') := by
  have hlen : o < ob.length := (List.getElem?_eq_some_iff.1 ho).1
  have hle := le_addG hi b C'
  have hold : ∀ q, q < ob.length → addG γ ob.length b C' q = γ q := fun q hq => by simp [addG, show q ≠ ob.length by omega]
  have hb := hi.dom o b C hg
  have hsl : (ob.set o Ob.dead).length = ob.length := List.length_set ..
  have hlv : ∀ q, live (ob.set o .dead ++ [X']) q → q = ob.length ∨ (q < ob.length ∧ live ob q ∧ q ≠ o) := by
    rintro q ⟨Y, hY, hne⟩
    by_cases e : q < ob.length
    · rw [List.getElem?_append_left (by rw [hsl]; exact e)] at hY
      exact .inr ⟨e, live_dead ⟨Y, hY, hne⟩⟩
    · have := (List.getElem?_eq_some_iff.1 hY).1
      simp at this
      exact .inl (by omega)
  refine ⟨⟨fun a x h => ?_, fun q Y hY => ?_, fun q q' c D D' l1 l2 h1 h2 => ?_, fun q c D h => ?_, fun q h => ?_⟩, ⟨fun _ _ h => h, fun _ _ h => .inl h, ?_, hos, htape, hout, by omega, fun k hk hn => hother k fun e => hn ⟨o, C, by rw [e]; exact hg⟩⟩, hle⟩
  · rw [World.cell?_of_block (hother _ (mem_block hi hm h))]; exact hi.mem a x h
  · by_cases e : q < ob.length
    · rw [List.getElem?_append_left (by rw [hsl]; exact e)] at hY
      by_cases eo : o = q
      · subst eo
        rw [List.getElem?_set_self hlen] at hY
        cases hY; trivial
      · rw [List.getElem?_set_ne eo] at hY
        by_cases hd : Y = .dead
        · subst hd; trivial
        · exact obAt_le0 (hi.obj q Y hY) hle (fun c D hc => hother c fun ec => eo (hi.sep o q b C D ⟨X, ho, hX⟩ ⟨Y, hY, hd⟩ hg (ec ▸ hc))) (fun _ _ _ _ h => h)
    · have := (List.getElem?_eq_some_iff.1 hY).1
      have e2 : q = ob.length := by simp at this; omega
      subst e2
      rw [List.getElem?_append_right (by rw [hsl]; exact Nat.le_refl _), hsl] at hY
      simp at hY; subst hY; exact hX'
  · have aux : ∀ q D, q < ob.length → live ob q → q ≠ o → γ q = some (some (b, D)) → False := fun q D hq hl hne h => hne (hi.sep q o b D C hl ⟨X, ho, hX⟩ h hg)
    rcases hlv q l1 with rfl | ⟨e1, v1, n1⟩
    · rcases hlv q' l2 with rfl | ⟨e2, v2, n2⟩
      · rfl
      · rw [hold q' e2] at h2
        simp only [addG, if_true, Option.some.injEq, Prod.mk.injEq] at h1
        rw [← h1.1] at h2
        exact (aux q' D' e2 v2 n2 h2).elim
    · rw [hold q e1] at h1
      rcases hlv q' l2 with rfl | ⟨e2, v2, n2⟩
      · simp only [addG, if_true, Option.some.injEq, Prod.mk.injEq] at h2
        rw [← h2.1] at h1
        exact (aux q D e1 v1 n1 h1).elim
      · rw [hold q' e2] at h2
        exact hi.sep q q' c D D' v1 v2 h1 h2
  · rw [hsz]
    by_cases e : q = ob.length
    · subst e
      simp only [addG, if_true, Option.some.injEq, Prod.mk.injEq] at h
      omega
    · simp only [addG, e, if_false] at h
      exact hi.dom q c D h
  · by_cases e : q = ob.length
    · simp [e]
    · simp only [addG, e, if_false] at h
      have := hi.len q h
      simp; omega
  · rintro k hk ⟨q, D, h⟩
    by_cases e : q = ob.length
    · subst e
      simp only [addG, if_true, Option.some.injEq, Prod.mk.injEq] at h
      exact ⟨o, C, by rw [hg, h.1]⟩
    · simp only [addG, e, if_false] at h
      exact ⟨q, D, h⟩

theorem repCells_cells (hi : Inv m γ ob w) : ∀ {cs : List AV} {b off : Nat}, RepCells m γ cs b off → ∃ xs, RepVals m γ cs xs ∧ ∀ j v, xs[j]? = some v → w.cell? ⟨b, off + j, none⟩ = some v
  | [], b, off, _ => ⟨[], by simp [RepVals], fun j v h => by simp at h⟩
  | c :: cs, b, off, h => by
    simp only [RepCells] at h
    obtain ⟨⟨x, h1, h2⟩, h3⟩ := h
    obtain ⟨xs, k1, k2⟩ := repCells_cells hi h3
    refine ⟨x :: xs, by simp only [RepVals]; exact ⟨x, xs, rfl, h2, k1⟩, fun j v hv => ?_⟩
    cases j with
    | zero => simp at hv; subst hv; exact hi.mem _ _ h1
    | succ j =>
      have := k2 j v (by simpa using hv)
      rwa [show off + 1 + j = off + (j + 1) from by omega] at this
theorem repRows_all {S : Nat} : ∀ {rows : List (List AV)} {b off : Nat}, RepRows m γ S rows b off → ∀ r ∈ rows, r.length = S
  | [], _, _, _, r, hr => by simp at hr
  | q :: rows, b, off, h, r, hr => by
    simp only [RepRows] at h
    rcases List.mem_cons.1 hr with rfl | hr
    · exact h.1
    · exact repRows_all h.2.2 r hr
theorem repVals_len {γ : Gam} : ∀ {cs : List AV} {xs : List Value}, RepVals m γ cs xs → xs.length = cs.length
  | [], xs, h => by simp only [RepVals] at h; subst h; rfl
  | c :: cs, xs, h => by
    simp only [RepVals] at h
    obtain ⟨x, r, rfl, _, h⟩ := h
    simp [repVals_len h]
/-- the cells of frozen rows -/
theorem repRows_cells (hi : Inv m γ ob w) {S : Nat} : ∀ {rows : List (List AV)} {b off : Nat}, RepRows m γ S rows b off → ∃ xs, RepVals m γ rows.flatten xs ∧ xs.length = rows.length * S ∧ ∀ j v, xs[j]? = some v → w.cell? ⟨b, off + j, none⟩ = some v
  | [], b, off, _ => ⟨[], by simp [RepVals], by simp, fun j v h => by simp at h⟩
  | r :: rows, b, off, h => by
    simp only [RepRows] at h
    obtain ⟨h1, h2, h3⟩ := h
    obtain ⟨ys, q1, q2⟩ := repCells_cells hi h2
    obtain ⟨xs, k1, k2, k3⟩ := repRows_cells hi h3
    have hy : ys.length = S := (repVals_len q1).trans h1
    refine ⟨ys ++ xs, by rw [List.flatten_cons]; exact repVals_append q1 k1, by rw [List.length_append, hy, k2, List.length_cons, Nat.add_mul, Nat.one_mul, Nat.add_comm], fun j v hv => ?_⟩
    by_cases hj : j < ys.length
    · rw [List.getElem?_append_left hj] at hv
      exact q2 j v hv
    · rw [List.getElem?_append_right (by omega)] at hv
      have := k3 _ v hv
      rwa [show off + S + (j - ys.length) = off + j from by omega] at this
/-- 'append': what comes out is a new object; the old one is given up. -/
theorem append_new {t tx e : TypeId} {S B k : Nat} {zs : List Value} {rows new : List (List AV)} {ob1 : List Ob} (ht : slk P t = some (e, S, B)) (hz : zer P e = some zs) (hzl : zs.length = S) (ty : TypeId) (hi : Inv m γ ob w)
    (hlen : (k + new.length) * B ≤ 140737488355328) (hmax : k + new.length ≤ 9223372036854775807) (hS2 : ∀ r ∈ new, r.length = S)
    {vx : Value} (h1 : (vx = .slice none 0 0 ∧ k = 0 ∧ rows = [] ∧ ob1 = ob) ∨ (Rep m γ (.cl S rows) vx ∧ k = rows.length ∧ new ≠ [] ∧ ob1 = ob) ∨ ∃ o, Rep m γ (.sr o S 0 k) vx ∧ ob[o]? = some (.row e S rows) ∧ k ≤ rows.length ∧ ob1 = ob.set o .dead) {x : Value} {news : List Value} (hs : Src P S tx x new.length news w) (n1 : RepVals m γ new.flatten news) :
    ∃ v w' γ', (Builtin.append_ #[t, tx] ty #[vx, x]).run P w = .ok v w' ∧ Trans m γ w m γ' w' ∧ Le m γ [] m γ' ∧ Inv m γ' (ob1 ++ [.row e S (rows.take k ++ new)]) w' ∧ Rep m γ' (.sr ob.length S 0 (k + new.length)) v := by
  obtain ⟨hu, inf, g1, g2, g3⟩ := slk_elem ht
  obtain ⟨z, hzz, hzc⟩ : ∃ z, inf.zero = some z ∧ z.cells.size = S := by
    unfold zer at hz
    rw [g1] at hz
    cases hzz : inf.zero with
    | none => simp [hzz] at hz
    | some z => refine ⟨z, rfl, ?_⟩; simp [hzz] at hz; subst hz; simpa using hzl
  have hs' : Src P inf.size tx x new.length news w := by rw [g2]; exact hs
  have n2 : news.length = new.length * S := hs.newsLen
  obtain ⟨hid, htd⟩ := inv_drew hi
  have hdead : ∀ {γ'} {w'} {Y}, Inv m γ' (ob ++ [Y]) w' → (vx = .slice none 0 0 ∧ k = 0 ∧ rows = [] ∧ ob1 = ob) ∨ (Rep m γ (.cl S rows) vx ∧ k = rows.length ∧ new ≠ [] ∧ ob1 = ob) ∨ (∃ o, Rep m γ (.sr o S 0 k) vx ∧ ob[o]? = some (.row e S rows) ∧ k ≤ rows.length ∧ ob1 = ob.set o .dead) → Inv m γ' (ob1 ++ [Y]) w' := by
    rintro γ' w' Y h (⟨_, _, _, rfl⟩ | ⟨_, _, _, rfl⟩ | ⟨o, _, ho, _, rfl⟩)
    · exact h
    · exact h
    · have := inv_dead h o
      rwa [List.set_append_left _ _ (List.getElem?_eq_some_iff.1 ho).1] at this
  -- what is there before: a base with cells 'olds'
  obtain ⟨base, cap, olds, rfl, c1, c2, c3, c4, c5, c6⟩ : ∃ base cap olds, vx = .slice base k cap ∧ k ≤ cap ∧ RepVals m γ (rows.take k).flatten olds ∧ olds.length = k * S ∧ (rows.take k).length = k ∧ (∀ r ∈ rows.take k, r.length = S) ∧
      ((cap = 0 ∧ k = 0 ∧ olds = []) ∨ (cap = k ∧ new ≠ [] ∧ ∃ b off, base = some ⟨b, off, none⟩ ∧ ∀ j v, olds[j]? = some v → w.cell? ⟨b, off + j, none⟩ = some v) ∨ ∃ o b C cur, γ o = some (some (b, C)) ∧ base = some ⟨b, 0, none⟩ ∧ cap ≤ C ∧ ob[o]? = some (.row e S rows) ∧ CA w b cur e ∧ cur.size = C * S ∧ C ≤ maxLen ∧ olds = cur.toList.take (k * S) ∧ (∀ off, m ⟨b, off, none⟩ = none) ∧ ob1 = ob.set o .dead) := by
    rcases h1 with ⟨rfl, rfl, rfl, rfl⟩ | ⟨hr, rfl, hne, rfl⟩ | ⟨o, hr, ho, hk, rfl⟩
    · exact ⟨none, 0, [], rfl, Nat.le_refl _, by simp [RepVals], by simp, by simp, by simp, .inl ⟨rfl, rfl, rfl⟩⟩
    · simp only [Rep] at hr
      obtain ⟨ad, len, rfl, rfl, hr⟩ := hr
      rcases hr with rfl | ⟨b, off, rfl, hr⟩
      · exact ⟨ad, 0, [], rfl, Nat.le_refl _, by simp [RepVals], by simp, by simp, by simp, .inl ⟨rfl, rfl, rfl⟩⟩
      · obtain ⟨olds, q1, q2, q3⟩ := repRows_cells hi hr
        exact ⟨some ⟨b, off, none⟩, rows.length, olds, rfl, Nat.le_refl _, by rw [List.take_length]; exact q1, q2, by simp, by rw [List.take_length]; exact repRows_all hr, .inr (.inl ⟨rfl, hne, b, off, rfl, q3⟩)⟩
    · simp only [Rep] at hr
      rcases hr with ⟨q1, ⟨ad, rfl⟩, _, rfl⟩ | ⟨b, C, cap, q1, q2, q3, q4, (rfl | ⟨_, h, _⟩)⟩
      rotate_right
      · exact absurd rfl h
      · exact ⟨ad, 0, [], rfl, Nat.le_refl _, by simp [RepVals], by simp, by simp, by simp, .inl ⟨rfl, rfl, rfl⟩⟩
      · rcases hi.obj o _ ho with ⟨e1, _⟩ | ⟨b', C', cur, p1, p2, p3, p4, p5, p6, p7, p8⟩
        · rw [q1] at e1; cases e1
        · rw [q1] at p1; cases p1
          have hold := repVals_take p7 (k * S)
          rw [List.take_take, flat_take p6 hk, Nat.min_eq_left (Nat.mul_le_mul_right _ hk)] at hold
          have hkC : k * S ≤ C * S := Nat.mul_le_mul_right _ (by omega)
          exact ⟨some ⟨b, 0, none⟩, cap, _, by simp, q3, hold, by simp; omega, by simp; omega, fun r hr => p6 r (List.mem_of_mem_take hr), .inr <| .inr ⟨o, b, C, cur, q1, rfl, by omega, ho, p2, p3, p5, rfl, p8, rfl⟩⟩
  have htot : (rows.take k ++ new).length = k + new.length := by rw [List.length_append, c4]
  have hallS : ∀ r ∈ rows.take k ++ new, r.length = S := by
    intro r hr
    rcases List.mem_append.1 hr with h | h
    · exact c5 r h
    · exact hS2 r h
  have hall := repVals_append c2 n1
  rw [← List.flatten_append] at hall
  have htl : (olds ++ news).length = (k + new.length) * S := by rw [List.length_append, c3, n2, Nat.add_mul]
  by_cases hroom : k + new.length ≤ cap
  · rcases c6 with ⟨rfl, rfl, rfl⟩ | ⟨rfl, hne, _⟩ | ⟨o, b, C, cur, q1, rfl, q2, ho, p2, p3, p5, hol, p8, rfl⟩
    rotate_left
    · exact absurd (List.eq_nil_of_length_eq_zero (by omega)) hne
    rotate_left
    · have hn0 : new.length = 0 := by omega
      have hn : new = [] := List.eq_nil_of_length_eq_zero hn0
      subst hn
      obtain ⟨i1, i2, i3⟩ := inv_virtual hi e S
      refine ⟨_, w, _, run_append_none w t tx ty e inf hu g1 hs' base, i2, i3, hdead (by simpa using i1) h1, by simp [Rep]⟩
    · have hCn : (k + new.length) * S ≤ C * S := Nat.mul_le_mul_right _ (by omega)
      rw [Nat.add_mul] at hCn
      have hr := run_append_room_s (P := P) w t tx ty e inf hu g1 b k cap cur p2 hs' hroom (by rw [g2]; omega)
      rw [g2] at hr
      have hlk : (cur.toList.take (k * S)).length = k * S := by rw [← hol]; exact c3
      obtain ⟨i1, i2, i3⟩ := inv_alias hi (X' := .row e S (rows.take k ++ new)) ho (by simp) q1 p8 (fun q hq => setRow_other w b q (cur.toList.take (k * S) ++ news ++ cur.toList.drop (k * S + news.length)).toArray hq) (by simp [World.setRow]) rfl rfl rfl C
        (.inr ⟨b, C, _, by simp [addG], p2.setRow (by
          simp only [List.size_toArray, List.length_append, hlk, List.length_drop, Array.length_toList]; omega), by
          simp only [List.size_toArray, List.length_append, hlk, List.length_drop, Array.length_toList]; omega, by rw [htot]; omega, p5, hallS, by
          rw [htot]
          simp only
          rw [← htl, ← hol, List.take_left]
          exact reps_le0 (le_addG hi _ _) hall, p8⟩)
      exact ⟨_, _, _, hr, i2, i3, i1, by simp only [Rep]; exact .inr ⟨b, C, cap, by simp [addG], by omega, by omega, by omega, .inl (by simp)⟩⟩
  · have hr := run_append_grow_src (P := P) w t tx ty e inf z hu g1 hzz base k cap olds (by
      rcases c6 with ⟨rfl, rfl, rfl⟩ | ⟨rfl, hne, b, off, rfl, hcell⟩ | ⟨o, b, C, cur, q1, rfl, q2, ho, p2, p3, p5, hol, p8, _⟩
      · cases base <;> simp [Builtin.firstCells, loadCells, loadCellsFrom]
      · refine run_firstCells_some w.drew inf.size _ ⟨b, off, none⟩ _ _ _ (by rw [g2]; exact c3) (fun j v hv => ?_)
        rw [add_addr]
        exact hcell j v hv
      · refine run_firstCells_some w.drew inf.size k ⟨b, 0, none⟩ k cap _ (by rw [g2]; exact c3) (fun j v hv => ?_)
        rw [add_addr]
        have : CA w.drew b cur e := p2
        rw [this.cell]
        rw [hol, List.getElem?_take] at hv
        split at hv
        · simpa using hv
        · cases hv) x new.length news hs' (by omega) (by omega) (growslice_fits (by omega) (by rw [g3]; exact hlen))
    have hge := grownCap_ge w (k + new.length) cap e
    have hcm := grownCap_le_maxLen w (k + new.length) cap e (by unfold maxLen; omega)
    obtain ⟨k1, k2⟩ := inv_new hid (.cells ((olds ++ news).toArray ++ Builtin.zeroCells z.cells (grownCap w (k + new.length) cap e - (k + new.length))) e) (grownCap w (k + new.length) cap e) (.row e S (rows.take k ++ new))
      (.inr ⟨w.heap.size, grownCap w (k + new.length) cap e, _, by simp [addG], CA.of_plain (heap_alloc_new w.drew _), by
        simp only [Array.size_append, List.size_toArray, size_zeroCells, hzc, htl, ← Nat.add_mul]; congr 1; omega, by rw [htot]; exact hge, hcm, hallS, by
        rw [htot]
        simp only [Array.toList_append]
        rw [← htl, List.take_left]
        exact reps_le0 (le_addG hid _ _) hall, fun off => mem_fresh hi (Nat.le_refl _) off⟩)
    refine ⟨_, _, _, hr, htd.trans k2, le_addG hid _ _, hdead k1 h1, ?_⟩
    simp only [Rep]
    exact .inr ⟨w.heap.size, grownCap w (k + new.length) cap e, grownCap w (k + new.length) cap e, by simp [addG], by omega, by omega, by omega, .inl (by simp)⟩
end

section
variable {P : Program} {n : Nat} {ops : Array Oper} {l : List Oper} {L : Loc} {ob : List Ob} {kf : List Rec → Loc → List Ob → Prop} {gu : Loc}
variable {dst : Option Nat} {ty : TypeId} {pos : String} {after : Array Edge} {guard : Option (Nat × Bool)}
/-- what is appended to: nothing, or a live row from its beginning on; how much of it, its rows, the objects without it -/
inductive Dst (ob : List Ob) (e : TypeId) (S : Nat) : AV → Nat → List (List AV) → List Ob → Prop
  | none : Dst ob e S (.v (.slice none 0 0)) 0 [] ob
  | cl {rows : List (List AV)} : Dst ob e S (.cl S rows) rows.length rows ob
  | row {o k : Nat} {rows : List (List AV)} (ho : ob[o]? = some (.row e S rows)) (hk : k ≤ rows.length) : Dst ob e S (.sr o S 0 k) k rows (ob.set o .dead)
/-- what is appended to a slice that is cut off is something -/
def clB : AV → List (List AV) → Bool
  | .cl _ _, new => !Nat.beq new.length 0
  | _, _ => true
theorem ev_appendN {t tx e : TypeId} {S B k : Nat} {zs : List Value} {x y : Operand} {avx avy : AV} {rows new : List (List AV)} {ob1 : List Ob} (ht : slk P t = some (e, S, B)) (hz : zer P e = some zs) (hzl : zs.length = S) (hx : aeval L x = some avx) (hy : aeval L y = some avy)
    (hd : Dst ob e S avx k rows ob1) (hcl : clB avx new = true) (hs : srcA ob S avy = some new) (hst : srcT P tx avy = true) (hone : rowsOne new = true) (hlen : (k + new.length) * B ≤ 140737488355328) (hmax : k + new.length ≤ 9223372036854775807) (hg : Gd ops L guard gu) (hn : ∀ d, dst = some d → d < n)
    (kk : EvK P n ops l (updL L dst (.sr ob.length S 0 (k + new.length)) []) (ob1 ++ [.row e S (rows.take k ++ new)]) (fun recs => kf (⟨dst, gu ++ uses [(x, avx), (y, avy)], .sr ob.length S 0 (k + new.length), [], .write⟩ :: recs))) :
    EvK P n ops (⟨dst, .call ⟨.builtin .append, #[x, y], #[t, tx]⟩, ty, pos, after, guard⟩ :: l) L ob kf :=
  ev_any2 (o := ⟨dst, .call ⟨.builtin .append, #[x, y], #[t, tx]⟩, ty, pos, after, guard⟩) [] [(x, avx), (y, avy)] ⟨hx, hy, trivial⟩ hg hn (fun m γ w a K Q hi h hK => by
    obtain ⟨h1, h2, _⟩ := h
    obtain ⟨news, k1, k2, k3⟩ := src_of hi h2 hs hst hone
    obtain ⟨v, w', γ', r1, r2, r3, r4, r5⟩ := append_new ht hz hzl ty hi hlen hmax k3 (rows := rows) (ob1 := ob1) (vx := a.eval x) (by
      cases hd with
      | none => simp only [Rep] at h1; exact .inl ⟨h1, rfl, rfl, rfl⟩
      | cl => exact .inr (.inl ⟨h1, rfl, fun e => (by subst e; cases hcl), rfl⟩)
      | row ho hk => exact .inr (.inr ⟨_, h1, ho, hk, rfl⟩)) k1 k2
    refine upon_value' (v := v) (w' := w') ?_ (hK m γ' w' v r2 r3 r4 r5)
    simp [execOp, resolve, invoke, builtin, r1]) kk
end
end Go.Am
