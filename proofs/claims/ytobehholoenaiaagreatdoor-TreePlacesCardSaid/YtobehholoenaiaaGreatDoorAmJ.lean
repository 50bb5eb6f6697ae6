/-
  An abstract machine, part J: append to a live row; calls.
-/
import Derived.Test.YtobehholoenaiaaGreatDoorAmI
import Derived.Deep.AppendSrc
namespace Go.Am

theorem repRows_vals {m : Mem} {γ : Gam} {S : Nat} : ∀ {rows : List (List AV)} {b off : Nat}, RepRows m γ S rows b off → ∃ xs : List Value, RepVals m γ rows.flatten xs ∧ xs.length = rows.length * S ∧ ∀ j v, xs[j]? = some v → m ⟨b, off + j, none⟩ = some v
  | [], b, off, _ => ⟨[], by simp [RepVals], by simp, by simp⟩
  | r :: rs, b, off, h => by
    simp only [RepRows] at h
    obtain ⟨h1, h2, h3⟩ := h
    obtain ⟨xs, k1, k2⟩ := repCells_vals h2
    obtain ⟨ys, g1, g2, g3⟩ := repRows_vals h3
    have hl := repVals_length k1
    refine ⟨xs ++ ys, by simp only [List.flatten_cons]; exact repVals_append k1 g1, by simp only [List.length_append, List.length_cons, g2, hl, h1, Nat.add_mul]; omega, fun j v hv => ?_⟩
    by_cases hj : j < xs.length
    · rw [List.getElem?_append_left hj] at hv; exact k2 j v hv
    · rw [List.getElem?_append_right (by omega)] at hv
      have := g3 _ v hv
      rw [← this]; congr 2; omega

def rowsOne (rows : List (List AV)) : Bool := rows.all fun r => r.all AV.one
theorem rowsOne_flat : ∀ {rows : List (List AV)}, rowsOne rows = true → rows.flatten.all AV.one = true
  | [], _ => rfl
  | r :: rs, h => by
    simp only [rowsOne, List.all_cons, Bool.and_eq_true] at h
    simp only [List.flatten_cons, List.all_append, Bool.and_eq_true]
    exact ⟨h.1, rowsOne_flat h.2⟩

section
variable {P : Program} {w : World}
theorem run_append_zero {t e : TypeId} {S B : Nat} (ht : slk P t = some (e, S, B)) (ty : TypeId) (base : Option Addr) (len cap : Nat) (hc : len ≤ cap) (hb : base = none → len = 0) (ad : Option Addr) (c : Nat) :
    (Builtin.append_ #[t, t] ty #[.slice base len cap, .slice ad 0 c]).run P w = .ok (.slice base len cap) w := by
  obtain ⟨hu, inf, g1, g2, _⟩ := slk_elem ht
  have hf : (Builtin.firstCells S 0 (.slice ad 0 c)).run P w = .ok #[] w := by
    cases ad <;> simp [Builtin.firstCells, loadCells, loadCellsFrom]
  cases base with
  | none => simp [Builtin.append_, run_underlying hu, sizeOf, typeInfo, g1, g2, Builtin.lenOf, hc, hf]
  | some a => simp [Builtin.append_, run_underlying hu, sizeOf, typeInfo, g1, g2, Builtin.lenOf, hc, hf, storeCells]
end

theorem live_kill {ob : List Ob} {ks : List Nat} {k : Nat} (h : live (ob.map (killOb ks)) k) : live ob k := by
  obtain ⟨Y, hY, hne⟩ := h
  rw [List.getElem?_map] at hY
  cases ho : ob[k]? with
  | none => simp [ho] at hY
  | some Z =>
    rw [ho] at hY
    simp only [Option.map_some, Option.some.injEq] at hY
    exact ⟨Z, ho, fun e => hne (by rw [← hY, e]; rfl)⟩
theorem live_set {ob : List Ob} {o k : Nat} {X : Ob} (ho : live ob o) (h : live (ob.set o X) k) : live ob k := by
  obtain ⟨Y, hY, hne⟩ := h
  by_cases hko : o = k
  · subst hko; exact ho
  · rw [List.getElem?_set_ne hko] at hY; exact ⟨Y, hY, hne⟩
/-- the objects, when one of them has grown -/
def grown (ob : List Ob) (o : Nat) (X : Ob) : List Ob := (ob.map (killOb [o])).set o X

section
variable {P : Program} {n : Nat} {ops : Array Oper} {l : List Oper} {L : Loc} {ob : List Ob} {kf : List Rec → Loc → List Ob → Prop} {gu : Loc}
variable {dst : Option Nat} {ty : TypeId} {pos : String} {after : Array Edge} {guard : Option (Nat × Bool)}
theorem kill_plain {m : Mem} {γ : Gam} {ks : List Nat} {w : World} (hi : Inv m γ ob w) : Inv m γ (ob.map (killOb ks)) w := by
  refine ⟨hi.mem, fun o X hX => ?_, fun o o' b C C' h1 h2 => hi.sep o o' b C C' ?_ ?_, hi.dom, fun o h => by simpa using hi.len o h⟩
  · rw [List.getElem?_map] at hX
    cases ho : ob[o]? with
    | none => simp [ho] at hX
    | some Y =>
      rw [ho] at hX
      simp only [Option.map_some, Option.some.injEq] at hX
      subst hX
      have h1 := hi.obj o Y ho
      cases Y with
      | dead => trivial
      | box T cells =>
        obtain ⟨b', cs, g1, g2, g3, g4⟩ := h1
        exact ⟨b', cs, g1, g2, kill_reps (Le.refl m γ ks) g3, g4⟩
      | row T S rows =>
        rcases h1 with ⟨g1, g2⟩ | ⟨b', C', cs, g1, g2, g3, g4, g5, g6, g7, g8⟩
        · exact .inl ⟨g1, by subst g2; rfl⟩
        · refine .inr ⟨b', C', cs, g1, g2, g3, by simpa using g4, g5, ?_, ?_, g8⟩
          · intro r hr
            obtain ⟨q, hq, rfl⟩ := List.mem_map.1 hr
            simpa using g6 q hq
          · have := kill_reps (Le.refl m γ ks) g7
            rw [← List.map_flatten]
            simpa using this
      | mp keys vals =>
        obtain ⟨b', es, clock, g1, g2, g3, g4, g5⟩ := h1
        exact ⟨b', es, clock, g1, g2, g3, kill_reps (Le.refl m γ ks) g4, g5⟩
      | lp busy kc ts cs =>
        obtain ⟨b', r, xs, g1, g2, g3, g4, g5, g6⟩ := h1
        exact ⟨b', r, xs, g1, g2, g3, kill_reps (Le.refl m γ ks) g4, g5, g6⟩
  · exact live_kill h1
  · exact live_kill h2

end

section
variable {P : Program} {m : Mem} {γ : Gam} {ob : List Ob} {w : World}
theorem flat_take {S k : Nat} {rows : List (List AV)} (hS : ∀ r ∈ rows, r.length = S) (hk : k ≤ rows.length) : rows.flatten.take (k * S) = (rows.take k).flatten := by
  have hfl := flatten_len (S := S) (q := rows.take k) (fun r hr => hS r (List.mem_of_mem_take hr))
  have hl : (rows.take k).length = k := by simp; omega
  rw [hl] at hfl
  conv => lhs; rw [← List.take_append_drop k rows]
  rw [List.flatten_append, List.take_append_of_le_length (by omega)]
  exact List.take_of_length_le (by omega)
theorem freeRows_take {ks : List Nat} : ∀ {rows : List (List AV)} (k : Nat), freeRows ks rows = true → freeRows ks (rows.take k) = true
  | [], k, _ => by simp [freeRows]
  | r :: rs, 0, _ => by simp [freeRows]
  | r :: rs, k + 1, h => by
    simp only [freeRows, Bool.and_eq_true] at h
    simp [freeRows, h.1, freeRows_take k h.2]
theorem freeVals_append {ks : List Nat} : ∀ {A B : List AV}, freeVals ks A = true → freeVals ks B = true → freeVals ks (A ++ B) = true
  | [], B, _, h => by simpa using h
  | a :: A, B, h, k => by
    simp only [freeVals, Bool.and_eq_true] at h
    simp [freeVals, h.1, freeVals_append h.2 k]
theorem freeRows_flat {ks : List Nat} : ∀ {rows : List (List AV)}, freeRows ks rows = true → freeVals ks rows.flatten = true
  | [], _ => by simp [freeVals]
  | r :: rs, h => by
    simp only [freeRows, Bool.and_eq_true] at h
    simp only [List.flatten_cons]
    exact freeVals_append h.1 (freeRows_flat h.2)

theorem run_append_room_s (w : World) (t tx ty e : TypeId) (i : TypeInfo) (ht : P.underlying t = some (.slice e)) (hi : P.info? e = some i) (g sLen sCap : Nat) (cur : Array Value) (hg : CA w g cur e) {x : Value} {n : Nat} {news : List Value} (hs : Src P i.size tx x n news w)
    (hroom : sLen + n ≤ sCap) (hfit : sLen * i.size + news.length ≤ cur.size) :
    (Builtin.append_ #[t, tx] ty #[.slice (some ⟨g, 0, none⟩) sLen sCap, x]).run P w = .ok (.slice (some ⟨g, 0, none⟩) (sLen + n) sCap) (w.setRow g (cur.toList.take (sLen * i.size) ++ news ++ cur.toList.drop (sLen * i.size + news.length)).toArray) := by
  obtain ⟨fr, hg1, hg2⟩ := hg
  have hst := run_storeCells_CA P g (sLen * i.size) e fr news 0 cur w hg1 hg2 (by simpa using hfit) hs.one
  simp only [Nat.add_zero] at hst
  rcases hs.kind with ⟨e', hk⟩ | hk <;> simp [Builtin.append_, run_underlying ht, run_underlying hk, sizeOf, typeInfo, hi, hs.len, hroom, hs.cells, Addr.add_lit, hst]
theorem run_append_none (w : World) (t tx ty e : TypeId) (i : TypeInfo) (ht : P.underlying t = some (.slice e)) (hi : P.info? e = some i) {x : Value} {news : List Value} (hs : Src P i.size tx x 0 news w) (a : Option Addr) :
    (Builtin.append_ #[t, tx] ty #[.slice a 0 0, x]).run P w = .ok (.slice a 0 0) w := by
  have hn : news = [] := List.eq_nil_of_length_eq_zero (by simpa using hs.newsLen)
  subst hn
  have hc := hs.cells
  rcases hs.kind with ⟨e', hk⟩ | hk <;> cases a <;> simp [Builtin.append_, run_underlying ht, run_underlying hk, sizeOf, typeInfo, hi, hs.len, hc, storeCells]

/-- What 'append' does to a live row. -/
theorem append_live {t tx e : TypeId} {S B o k : Nat} {zs : List Value} {rows new : List (List AV)} (ht : slk P t = some (e, S, B)) (hz : zer P e = some zs) (hzl : zs.length = S) (ty : TypeId) (hi : Inv m γ ob w) (ho : ob[o]? = some (.row e S rows)) (hk : k ≤ rows.length)
    (hlen : (k + new.length) * B ≤ 140737488355328) (hmax : k + new.length ≤ 9223372036854775807) (hfr : freeRows [o] rows = true) (hfn : freeRows [o] new = true) (hS2 : ∀ r ∈ new, r.length = S)
    {vx : Value} (h1 : Rep m γ (.sr o S 0 k) vx) {x : Value} {news : List Value} (hs : Src P S tx x new.length news w) (n1 : RepVals m γ new.flatten news) :
    ∃ v w' γ', (Builtin.append_ #[t, tx] ty #[vx, x]).run P w = .ok v w' ∧ Trans m γ w m γ' w' ∧ Le m γ [o] m γ' ∧ Inv m γ' (grown ob o (.row e S (rows.take k ++ new))) w' ∧ Rep m γ' (.sr o S 0 (k + new.length)) v := by
  obtain ⟨hu, inf, g1, g2, g3⟩ := slk_elem ht
  obtain ⟨z, hzz, hzc⟩ : ∃ z, inf.zero = some z ∧ z.cells.size = S := by
    unfold zer at hz
    rw [g1] at hz
    cases hzz : inf.zero with
    | none => simp [hzz] at hz
    | some z => refine ⟨z, rfl, ?_⟩; simp [hzz] at hz; subst hz; simpa using hzl
  have hs' : Src P inf.size tx x new.length news w := by rw [g2]; exact hs
  have n2 : news.length = new.length * S := hs.newsLen
  have hlo : live ob o := ⟨_, ho, by simp⟩
  have hol : o < ob.length := (List.getElem?_eq_some_iff.1 ho).1
  have htk : (rows.take k).length = k := by simp; omega
  have htot : (rows.take k ++ new).length = k + new.length := by rw [List.length_append, htk]
  have hallS : (∀ r ∈ rows, r.length = S) → ∀ r ∈ rows.take k ++ new, r.length = S := by
    intro q6 r hr
    rcases List.mem_append.1 hr with h | h
    · exact q6 r (List.mem_of_mem_take h)
    · exact hS2 r h
  have hleG : ∀ C', Le m γ [o] m (addG γ o w.heap.size C') := fun C' => ⟨fun _ _ h => h, fun q g hg hq => by
    have : q ≠ o := by simpa using hq
    simp [addG, this, hg]⟩
  simp only [Rep] at h1
  rcases h1 with ⟨q1, ⟨av, rfl⟩, _, q4⟩ | ⟨b, C, cap, q1, q2, q3c, q4c, (rfl | ⟨_, hlo0, _⟩)⟩
  rotate_right
  · exact absurd rfl hlo0
  · subst q4
    by_cases hnew : new = []
    · subst hnew
      have hXo : ObAt m γ w o (.row e S (rows.take 0 ++ [])) := by
        rcases hi.obj o _ ho with ⟨q1, q2⟩ | ⟨b, C, cs, p1, _⟩
        · exact .inl ⟨q1, by simp⟩
        · rw [q1] at p1; cases p1
      have hgr : Inv m γ (grown ob o (.row e S (rows.take 0 ++ []))) w := by
        have hi' := kill_plain (ks := [o]) hi
        have hlk : live (ob.map (killOb [o])) o := ⟨_, by rw [List.getElem?_map, ho]; rfl, by simp [killOb]⟩
        refine ⟨hi.mem, fun q Y hY => ?_, fun q q' b C C' l1 l2 => hi'.sep q q' b C C' (live_set hlk l1) (live_set hlk l2), hi.dom, fun q hq => by unfold grown; simpa using hi.len q hq⟩
        by_cases hq : o = q
        · subst hq
          unfold grown at hY
          rw [List.getElem?_set_self (by simpa using hol)] at hY
          cases hY; exact hXo
        · unfold grown at hY
          rw [List.getElem?_set_ne hq] at hY
          exact hi'.obj q Y hY
      exact ⟨.slice av 0 0, w, γ, run_append_none w t tx ty e inf hu g1 hs' av, Trans.refl _ _ _, Le.refl _ _ _, hgr, by simp [Rep, q1]⟩
    · have hpos : 0 < new.length := List.length_pos_iff.2 hnew
      have hr := run_append_grow_src (P := P) w t tx ty e inf z hu g1 hzz av 0 0 [] (by cases av <;> simp [Builtin.firstCells, loadCells, loadCellsFrom]) x new.length news hs' (by omega) (by omega) (growslice_fits (by omega) (by rw [g3]; exact hlen))
      simp only [Nat.zero_add, List.nil_append] at hr
      have hge := grownCap_ge w new.length 0 e
      have hcm := grownCap_le_maxLen w new.length 0 e (by
        unfold maxLen; omega)
      obtain ⟨k1, k2, k3⟩ := inv_move hi (C := grownCap w new.length 0 e) (X' := .row e S (rows.take 0 ++ new)) ho (by simp)
        (w' := w.drew.alloc (.cells (news.toArray ++ Builtin.zeroCells z.cells (grownCap w new.length 0 e - new.length)) e)) (fun q hq => heap_alloc_old w.drew _ hq) (by simp) rfl rfl rfl
        (.inr ⟨w.heap.size, grownCap w new.length 0 e, _, by simp [addG], CA.of_plain (heap_alloc_new w.drew _), by
          simp only [Array.size_append, List.size_toArray, size_zeroCells, hzc, n2, ← Nat.add_mul]; congr 1; omega, by simpa using hge, hcm, by simpa using hS2, by
          simp only [List.take_zero, List.nil_append, Array.toList_append]
          rw [← n2, List.take_left]
          exact repVals_le (hleG _) _ _ (freeRows_flat hfn) n1, fun off => mem_fresh hi (Nat.le_refl _) off⟩)
      refine ⟨_, _, _, hr, k2, k3, k1, ?_⟩
      simp only [Rep]
      exact .inr ⟨w.heap.size, grownCap w new.length 0 e, grownCap w new.length 0 e, by simp [addG], by omega, by omega, by omega, .inl (by simp)⟩
  · obtain ⟨b', C', cur, p1, p2, p3, p4, p5, p6, p7, p8⟩ : ∃ b C cs, γ o = some (some (b, C)) ∧ CA w b cs e ∧ cs.size = C * S ∧ rows.length ≤ C ∧ C ≤ maxLen ∧ (∀ r ∈ rows, r.length = S) ∧
        RepVals m γ rows.flatten (cs.toList.take (rows.length * S)) ∧ ∀ off, m ⟨b, off, none⟩ = none := by
      rcases hi.obj o _ ho with ⟨e1, _⟩ | h
      · rw [q1] at e1; cases e1
      · exact h
    rw [q1] at p1; cases p1
    have hold := repVals_take p7 (k * S)
    rw [List.take_take, flat_take p6 hk, Nat.min_eq_left (Nat.mul_le_mul_right _ hk)] at hold
    have hkC : k * S ≤ C * S := Nat.mul_le_mul_right _ (by omega)
    have hall := repVals_append hold n1
    rw [← List.flatten_append] at hall
    have hlk : (cur.toList.take (k * S)).length = k * S := by simp; omega
    simp only [Nat.zero_mul]
    by_cases hroom : k + new.length ≤ cap
    · have hCn : (k + new.length) * S ≤ C * S := Nat.mul_le_mul_right _ (by omega)
      rw [Nat.add_mul] at hCn
      have hr := run_append_room_s (P := P) w t tx ty e inf hu g1 b k cap cur p2 hs' hroom (by rw [g2]; omega)
      rw [g2] at hr
      obtain ⟨i1, _, i3⟩ := inv_set hi (X' := .row e S (rows.take k ++ new)) ho (by simp) q1 p8 (fun q hq => setRow_other w b q (cur.toList.take (k * S) ++ news ++ cur.toList.drop (k * S + news.length)).toArray hq) (by simp [World.setRow]) rfl rfl rfl [o]
        (.inr ⟨b, C, _, q1, p2.setRow (by
          simp only [List.size_toArray, List.length_append, hlk, List.length_drop, Array.length_toList]; omega), by
          simp only [List.size_toArray, List.length_append, hlk, List.length_drop, Array.length_toList]; omega, by rw [htot]; omega, p5, hallS p6, by
          rw [htot]
          simp only
          rw [show (k + new.length) * S = (cur.toList.take (k * S) ++ news).length from by rw [List.length_append, hlk, n2, Nat.add_mul], List.take_left]
          exact hall, p8⟩)
      exact ⟨_, _, γ, hr, i3, Le.refl _ _ _, i1, by simp only [Rep]; exact .inr ⟨b, C, cap, q1, by omega, by omega, by omega, .inl (by simp)⟩⟩
    · have hr := run_append_grow_src (P := P) w t tx ty e inf z hu g1 hzz (some ⟨b, 0, none⟩) k cap (cur.toList.take (k * S)) (run_firstCells_some w.drew inf.size k ⟨b, 0, none⟩ k cap _ (by rw [g2]; exact hlk) (fun j v hv => by
          rw [add_addr]
          have : CA w.drew b cur e := p2
          rw [this.cell]
          rw [List.getElem?_take] at hv
          split at hv
          · simpa using hv
          · cases hv)) x new.length news hs' (by omega) (by omega) (growslice_fits (by omega) (by rw [g3]; exact hlen))
      have hge := grownCap_ge w (k + new.length) cap e
      have hcm := grownCap_le_maxLen w (k + new.length) cap e (by unfold maxLen; omega)
      obtain ⟨k1, k2, k3⟩ := inv_move hi (C := grownCap w (k + new.length) cap e) (X' := .row e S (rows.take k ++ new)) ho (by simp)
        (w' := w.drew.alloc (.cells ((cur.toList.take (k * S) ++ news).toArray ++ Builtin.zeroCells z.cells (grownCap w (k + new.length) cap e - (k + new.length))) e)) (fun q hq => heap_alloc_old w.drew _ hq) (by simp) rfl rfl rfl
        (.inr ⟨w.heap.size, grownCap w (k + new.length) cap e, _, by simp [addG], CA.of_plain (heap_alloc_new w.drew _), by
          simp only [Array.size_append, List.size_toArray, List.length_append, size_zeroCells, hzc, n2, hlk, ← Nat.add_mul]; congr 1; omega, by rw [htot]; exact hge, hcm, hallS p6, by
          rw [htot]
          simp only [Array.toList_append]
          rw [show (k + new.length) * S = (cur.toList.take (k * S) ++ news).length from by rw [List.length_append, hlk, n2, Nat.add_mul], List.take_left]
          refine repVals_le (hleG _) _ _ ?_ hall
          rw [List.flatten_append]
          exact freeVals_append (freeRows_flat (freeRows_take k hfr)) (freeRows_flat hfn), fun off => mem_fresh hi (Nat.le_refl _) off⟩)
      refine ⟨_, _, _, hr, k2, k3, k1, ?_⟩
      simp only [Rep]
      exact .inr ⟨w.heap.size, grownCap w (k + new.length) cap e, grownCap w (k + new.length) cap e, by simp [addG], by omega, by omega, by omega, .inl (by simp)⟩
end

section
variable {P : Program} {n : Nat} {ops : Array Oper} {l : List Oper} {L : Loc} {ob : List Ob} {kf : List Rec → Loc → List Ob → Prop} {gu : Loc}
variable {dst : Option Nat} {ty : TypeId} {pos : String} {after : Array Edge} {guard : Option (Nat × Bool)}
theorem upon_value' {o : Oper} {a : Act} {K : Act → World → Prop} {Q : Exit → Act → World → Prop} {w w' : World} {v : Value} (h : (execOp a.eval o).run P w = .ok (.value v) w') (hk : K (a.put o.dst v) w') : o.wp P a w K Q := by
  unfold Oper.wp
  rw [h, Oper.upon_value]; exact hk

/-- what is appended, as rows: a frozen slice, a piece of a live row, nothing, a string's bytes -/
def srcA (ob : List Ob) (S : Nat) : AV → Option (List (List AV))
  | .sl S' new => cond (Nat.beq S' S) (some new) none
  | .sr o S' lo len => match ob[o]? with
    | some (.row _ S2 rows) => cond (Nat.beq S' S && Nat.beq S2 S && Nat.ble (lo + len) rows.length) (some ((rows.drop lo).take len)) none
    | _ => none
  | .v (.slice _ 0 _) => some []
  | .v (.string s) => cond (Nat.beq S 1) (some (s.data.toList.map fun b => [.v (.int .u8 b.toNat)])) none
  | _ => none
/-- .. and of what type -/
def srcT (P : Program) (tx : TypeId) : AV → Bool
  | .v (.string _) => match P.underlying tx with
    | some .string => true
    | _ => false
  | _ => match P.underlying tx with
    | some (.slice _) => true
    | _ => false
theorem srcT_sl {P : Program} {tx : TypeId} {av : AV} (h : srcT P tx av = true) (hv : ∀ s, av ≠ .v (.string s)) : ∃ e, P.underlying tx = some (.slice e) := by
  have key : (match P.underlying tx with | some (.slice _) => true | _ => false) = true := by
    unfold srcT at h
    split at h
    · exact absurd rfl (hv _)
    · exact h
  cases hu : P.underlying tx with
  | none => rw [hu] at key; cases key
  | some D => rw [hu] at key; cases D <;> first | (cases key; done) | exact ⟨_, rfl⟩
theorem flat_bytes : ∀ l : List UInt8, (l.map fun b => [AV.v (.int .u8 b.toNat)]).flatten = (l.map fun b => Value.int .u8 b.toNat).map .v
  | [] => rfl
  | b :: l => by simp [flat_bytes l]
theorem flat_take_drop {S : Nat} {rows : List (List AV)} (hS : ∀ r ∈ rows, r.length = S) {lo len : Nat} (h : lo + len ≤ rows.length) : ((rows.drop lo).take len).flatten = (rows.flatten.drop (lo * S)).take (len * S) := by
  have h1 : ∀ r ∈ rows.drop lo, r.length = S := fun r hr => hS r (List.mem_of_mem_drop hr)
  rw [← flat_take h1 (by simp; omega)]
  congr 1
  have hl := flatten_len (S := S) (q := rows.take lo) (fun r hr => hS r (List.mem_of_mem_take hr))
  rw [List.length_take, Nat.min_eq_left (by omega)] at hl
  conv => rhs; rw [← List.take_append_drop lo rows, List.flatten_append, ← hl, List.drop_left]
theorem src_of {P : Program} {m : Mem} {γ : Gam} {ob : List Ob} {w : World} (hi : Inv m γ ob w) {S : Nat} {tx : TypeId} {av : AV} {x : Value} {new : List (List AV)} (hr : Rep m γ av x) (ha : srcA ob S av = some new) (ht : srcT P tx av = true) (hone : rowsOne new = true) :
    ∃ news, Src P S tx x new.length news w ∧ RepVals m γ new.flatten news ∧ ∀ r ∈ new, r.length = S := by
  cases av with
  | sl S' rows =>
    obtain ⟨e', hu⟩ := srcT_sl ht (by intro s h; cases h)
    simp only [srcA] at ha
    cases hS : Nat.beq S' S with
    | false => rw [hS] at ha; cases ha
    | true =>
      rw [hS] at ha
      simp only [cond_true, Option.some.injEq] at ha
      have := Nat.eq_of_beq_eq_true hS
      subst this; subst ha
      simp only [Rep] at hr
      obtain ⟨ad, len, cap, rfl, e2, e3, e4⟩ := hr
      subst e2
      by_cases hn : rows = []
      · subst hn
        refine ⟨[], ?_, by simp [RepVals], by simp⟩
        refine ⟨.inl ⟨e', hu⟩, fun _ => rfl, ?_, ?_, by simp, by simp⟩ <;> (cases ad <;> simp [Builtin.firstCells, loadCells, loadCellsFrom])
      · obtain ⟨b, off, rfl, er⟩ := e4.resolve_left hn
        obtain ⟨news, n1, n2, n3⟩ := repRows_vals er
        exact ⟨news, Src.ofSlice w hu ⟨b, off, none⟩ rows.length cap news n2 (fun j u hu => by rw [add_addr]; exact hi.mem _ _ (n3 j u hu)) (reps_one n1 (rowsOne_flat hone)), n1, fun r hr => by
          obtain ⟨i, hi2, hir⟩ := List.getElem_of_mem hr
          exact (repRows_get er i r (by rw [List.getElem?_eq_getElem hi2, hir])).1⟩
  | sr o S' lo len =>
    obtain ⟨e', hu⟩ := srcT_sl ht (by intro s h; cases h)
    simp only [srcA] at ha
    cases ho : ob[o]? with
    | none => rw [ho] at ha; cases ha
    | some X =>
      rw [ho] at ha
      cases X <;> first | (cases ha; done) | skip
      rename_i T S2 rows
      simp only at ha
      cases hc : Nat.beq S' S && Nat.beq S2 S && Nat.ble (lo + len) rows.length with
      | false => rw [hc] at ha; cases ha
      | true =>
        rw [hc] at ha
        simp only [cond_true, Option.some.injEq] at ha
        simp only [Bool.and_eq_true] at hc
        have q1 := Nat.eq_of_beq_eq_true hc.1.1
        have q2 := Nat.eq_of_beq_eq_true hc.1.2
        have q3 := Nat.le_of_ble_eq_true hc.2
        subst q1; subst q2; subst ha
        have hlen : ((rows.drop lo).take len).length = len := by simp; omega
        simp only [Rep] at hr
        rcases hr with ⟨g1, ⟨ad, rfl⟩, rfl, rfl⟩ | ⟨b, C, cap, g1, g2, _, _, (rfl | ⟨rfl, _, ad, rfl⟩)⟩
        rotate_left 2
        · refine ⟨[], ?_, by simp [RepVals], by simp⟩
          rw [List.take_zero]
          refine ⟨.inl ⟨e', hu⟩, fun _ => rfl, ?_, ?_, by simp, by simp⟩ <;> (cases ad <;> simp [Builtin.firstCells, loadCells, loadCellsFrom])
        · refine ⟨[], ?_, by simp [RepVals], by simp⟩
          refine ⟨.inl ⟨e', hu⟩, fun _ => rfl, ?_, ?_, by simp, by simp⟩ <;> (cases ad <;> simp [Builtin.firstCells, loadCells, loadCellsFrom])
        · rcases hi.obj o _ ho with ⟨e1, _⟩ | ⟨b', C', cs, p1, p2, p3, p4, p5, p6, p7, p8⟩
          · rw [g1] at e1; cases e1
          · rw [g1] at p1; cases p1
            have h1 := repVals_take (repVals_drop p7 (lo * S2)) (len * S2)
            rw [← flat_take_drop p6 q3] at h1
            have hl := repVals_length h1
            have hl2 := flatten_len (S := S2) (q := (rows.drop lo).take len) (fun r hr => p6 r (List.mem_of_mem_drop (List.mem_of_mem_take hr)))
            refine ⟨_, ?_, h1, fun r hr => p6 r (List.mem_of_mem_drop (List.mem_of_mem_take hr))⟩
            rw [hlen]
            refine Src.ofSlice w hu ⟨b, lo * S2, none⟩ len cap _ (by rw [hl, hl2, hlen]) (fun j u hu => ?_) (reps_one h1 (rowsOne_flat hone))
            rw [add_addr, p2.cell]
            rw [List.getElem?_take] at hu
            split at hu
            · rw [List.getElem?_drop, List.getElem?_take] at hu
              split at hu
              · simpa using hu
              · cases hu
            · cases hu
  | v y =>
    simp only [Rep] at hr
    subst hr
    cases x <;> first | (cases ha; done) | skip
    · rename_i s
      simp only [srcA] at ha
      cases hS : Nat.beq S 1 with
      | false => rw [hS] at ha; cases ha
      | true =>
        rw [hS] at ha
        simp only [cond_true, Option.some.injEq] at ha
        have := Nat.eq_of_beq_eq_true hS
        subst this; subst ha
        have hu : P.underlying tx = some .string := by
          simp only [srcT] at ht
          split at ht
          · assumption
          · cases ht
        refine ⟨byteCells s, ?_, by rw [flat_bytes]; exact repVals_plain _, ?_⟩
        · have := Src.ofString (P := P) w hu s
          rw [List.length_map]
          have e : s.data.toList.length = s.size := by rw [Array.length_toList]; rfl
          rw [e]; exact this
        · intro r hr
          obtain ⟨_, _, rfl⟩ := List.mem_map.1 hr
          rfl
    · rename_i ad len cap
      obtain ⟨e', hu⟩ := srcT_sl ht (by intro s h; cases h)
      cases len <;> first | (cases ha; done) | skip
      simp only [srcA, Option.some.injEq] at ha
      subst ha
      refine ⟨[], ?_, by simp [RepVals], by simp⟩
      refine ⟨.inl ⟨e', hu⟩, fun _ => rfl, ?_, ?_, by simp, by simp⟩ <;> (cases ad <;> simp [Builtin.firstCells, loadCells, loadCellsFrom])
  | _ => cases ha

/-- append to a live row -/
theorem ev_append {t tx e : TypeId} {S B o k : Nat} {zs : List Value} {x y : Operand} {avy : AV} {rows new : List (List AV)} (ob1 : List Ob) (ht : slk P t = some (e, S, B)) (hz : zer P e = some zs) (hzl : zs.length = S) (hx : aeval L x = some (.sr o S 0 k)) (hy : aeval L y = some avy)
    (ho : ob[o]? = some (.row e S rows)) (hk : k ≤ rows.length) (hs : srcA ob S avy = some new) (hst : srcT P tx avy = true) (hone : rowsOne new = true) (hfr : freeRows [o] rows = true) (hfn : freeRows [o] new = true) (hlen : (k + new.length) * B ≤ 140737488355328) (hmax : k + new.length ≤ 9223372036854775807)
    (hob : grown ob o (.row e S (rows.take k ++ new)) = ob1) (hg : Gd ops L guard gu) (hn : ∀ d, dst = some d → d < n)
    (kk : EvK P n ops l (updL L dst (.sr o S 0 (k + new.length)) [o]) ob1 (fun recs => kf (⟨dst, gu ++ uses [(x, .sr o S 0 k), (y, avy)], .sr o S 0 (k + new.length), [o], .write⟩ :: recs))) :
    EvK P n ops (⟨dst, .call ⟨.builtin .append, #[x, y], #[t, tx]⟩, ty, pos, after, guard⟩ :: l) L ob kf := by
  subst hob
  exact ev_any2 (o := ⟨dst, .call ⟨.builtin .append, #[x, y], #[t, tx]⟩, ty, pos, after, guard⟩) [o] [(x, .sr o S 0 k), (y, avy)] ⟨hx, hy, trivial⟩ hg hn (fun m γ w a K Q hi h hK => by
    obtain ⟨h1, h2, _⟩ := h
    obtain ⟨news, k1, k2, k3⟩ := src_of hi h2 hs hst hone
    obtain ⟨v, w', γ', r1, r2, r3, r4, r5⟩ := append_live ht hz hzl ty hi ho hk hlen hmax hfr hfn k3 h1 k1 k2
    refine upon_value' (v := v) (w' := w') ?_ (hK m γ' w' v r2 r3 r4 r5)
    simp [execOp, resolve, invoke, builtin, r1]) kk
theorem ev_append_sl {t e : TypeId} {S B o k : Nat} {zs : List Value} {x y : Operand} {rows new : List (List AV)} (ht : slk P t = some (e, S, B)) (hz : zer P e = some zs) (hzl : zs.length = S) (hx : aeval L x = some (.sr o S 0 k)) (hy : aeval L y = some (.sl S new))
    (ho : ob[o]? = some (.row e S rows)) (hk : k ≤ rows.length) (hone : rowsOne new = true) (hfr : freeRows [o] rows = true) (hfn : freeRows [o] new = true) (hlen : (k + new.length) * B ≤ 140737488355328) (hmax : k + new.length ≤ 9223372036854775807)
    (hg : Gd ops L guard gu) (hn : ∀ d, dst = some d → d < n)
    (kk : EvK P n ops l (updL L dst (.sr o S 0 (k + new.length)) [o]) (grown ob o (.row e S (rows.take k ++ new))) (fun recs => kf (⟨dst, gu ++ uses [(x, .sr o S 0 k), (y, .sl S new)], .sr o S 0 (k + new.length), [o], .write⟩ :: recs))) :
    EvK P n ops (⟨dst, .call ⟨.builtin .append, #[x, y], #[t, t]⟩, ty, pos, after, guard⟩ :: l) L ob kf :=
  ev_append _ ht hz hzl hx hy ho hk (by simp [srcA]) (by simp [srcT, (slk_elem ht).1]) hone hfr hfn hlen hmax rfl hg hn kk
/-- a nil slice is taken for a live row of nothing -/
theorem inv_virtual {m : Mem} {γ : Gam} {w : World} (hi : Inv m γ ob w) (T : TypeId) (S : Nat) :
    Inv m (fun k => if k = ob.length then some none else γ k) (ob ++ [.row T S []]) w ∧ Trans m γ w m (fun k => if k = ob.length then some none else γ k) w ∧ Le m γ [] m (fun k => if k = ob.length then some none else γ k) := by
  have hle : Le m γ [] m (fun k => if k = ob.length then some none else γ k) := ⟨fun _ _ h => h, fun o g hg _ => by
    have := hi.len o (by rw [hg]; simp)
    simp [hg, show o ≠ ob.length by omega]⟩
  have hold : ∀ k b C, (fun k => if k = ob.length then some none else γ k) k = some (some (b, C)) → γ k = some (some (b, C)) := by
    intro k b C h
    by_cases e : k = ob.length
    · subst e; simp at h
    · simpa [e] using h
  refine ⟨⟨hi.mem, fun o X hX => ?_, fun o o' b C C' l1 l2 h1 h2 => ?_, fun o b C h => hi.dom o b C (hold o b C h), fun o h => ?_⟩, ⟨fun _ _ h => h, fun _ _ h => .inl h, fun k _ ⟨o, C, h⟩ => ⟨o, C, hold o k C h⟩, rfl, rfl, rfl, Nat.le_refl _, fun _ _ _ => rfl⟩, hle⟩
  · by_cases ho : o < ob.length
    · rw [List.getElem?_append_left ho] at hX
      exact obAt_le0 (hi.obj o X hX) hle (fun _ _ _ => rfl) (fun _ _ _ _ h => h)
    · have := (List.getElem?_eq_some_iff.1 hX).1
      have hoe : o = ob.length := by simp at this; omega
      subst hoe
      rw [List.getElem?_append_right (Nat.le_refl _)] at hX
      simp at hX; subst hX
      exact .inl ⟨by simp, rfl⟩
  · have g1 := hold o b C h1
    have g2 := hold o' b C' h2
    have q1 := hi.len o (by rw [g1]; simp)
    have q2 := hi.len o' (by rw [g2]; simp)
    have lv : ∀ k, k < ob.length → live (ob ++ [.row T S []]) k → live ob k := by
      rintro k hk ⟨Y, hY, hne⟩
      rw [List.getElem?_append_left hk] at hY
      exact ⟨Y, hY, hne⟩
    exact hi.sep o o' b C C' (lv o q1 l1) (lv o' q2 l2) g1 g2
  · by_cases e : o = ob.length
    · simp [e]
    · have := hi.len o (by simpa [e] using h)
      simp; omega
end
end Go.Am
