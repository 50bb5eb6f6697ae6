/-
  An abstract machine, part Fe: objects become memory that is never written again.
-/
import Derived.Test.YtobehholoenaiaaGreatDoorAmX
namespace Go.Am

open Classical in
/-- a block's cells join what is never written again -/
noncomputable def memAdd (m : Mem) (w : World) (b : Nat) : Mem where
  get a := match m.get a with
    | some x => some x
    | none => if a.block = b ∧ a.spot = none then w.cell? a else none
  has a x h := by simp [m.has a x h]
theorem memAdd_old {m : Mem} {w : World} {b : Nat} {a : Addr} {x : Value} (h : m a = some x) : memAdd m w b a = some x := by
  show (match m.get a with | some x => some x | none => _) = some x
  rw [show m.get a = some x from h]
theorem memAdd_new {m : Mem} {w : World} {b : Nat} {a : Addr} {x : Value} (h : memAdd m w b a = some x) : m a = some x ∨ (a.block = b ∧ w.cell? a = some x) := by
  have h' : (match m.get a with | some x => some x | none => if a.block = b ∧ a.spot = none then w.cell? a else none) = some x := h
  cases hm : m.get a with
  | some y => rw [hm] at h'; exact .inl h'
  | none =>
    rw [hm] at h'
    simp only at h'
    split at h'
    · rename_i hc; exact .inr ⟨hc.1, h'⟩
    · cases h'
theorem memAdd_at {m : Mem} {w : World} {b off : Nat} (h : m ⟨b, off, none⟩ = none) : memAdd m w b ⟨b, off, none⟩ = w.cell? ⟨b, off, none⟩ := by
  show (match m.get ⟨b, off, none⟩ with | some x => some x | none => _) = _
  rw [show m.get ⟨b, off, none⟩ = none from h]
  simp

/-- What is known of an object that was frozen. -/
structure FrzM (m : Mem) (γ : Gam) (o : Nat) (X : Ob) (m' : Mem) : Prop where
  le : Le m γ [] m' γ
  row : ∀ T S rows, X = .row T S rows → (γ o = some none ∧ rows = []) ∨ ∃ b C, γ o = some (some (b, C)) ∧ rows.length ≤ C ∧ RepRows m' γ S rows b 0
  box : ∀ Tb cells, X = .box Tb cells → ∃ b, γ o = some (some (b, 0)) ∧ RepCells m' γ cells b 0
theorem inv_freeze {m : Mem} {γ : Gam} {ob : List Ob} {w : World} (hi : Inv m γ ob w) {o : Nat} {X : Ob} (ho : ob[o]? = some X) (hX : (∃ T S rows, X = .row T S rows) ∨ ∃ Tb cells, X = .box Tb cells) :
    ∃ m', FrzM m γ o X m' ∧ Inv m' γ (ob.set o .dead) w ∧ Trans m γ w m' γ w := by
  have hob := hi.obj o X ho
  have key : ∀ (b C : Nat), γ o = some (some (b, C)) → (∀ off, m ⟨b, off, none⟩ = none) → X ≠ .dead → Le m γ [] (memAdd m w b) γ ∧ Inv (memAdd m w b) γ (ob.set o .dead) w ∧ Trans m γ w (memAdd m w b) γ w := by
    intro b C hg hm hne
    have hle : Le m γ [] (memAdd m w b) γ := ⟨fun a x h => memAdd_old h, fun _ _ h _ => h⟩
    have hi' := inv_dead hi o
    refine ⟨hle, ⟨fun a x h => ?_, fun q Y hY => ?_, hi'.sep, hi'.dom, hi'.len⟩, ⟨fun a x h => memAdd_old h, fun a x h => ?_, fun _ _ h => h, rfl, rfl, rfl, Nat.le_refl _, fun _ _ _ => rfl⟩⟩
    · rcases memAdd_new h with h1 | ⟨_, h1⟩
      · exact hi.mem a x h1
      · exact h1
    · by_cases hd : Y = .dead
      · subst hd; trivial
      · refine obAt_le0 (hi'.obj q Y hY) hle (fun _ _ _ => rfl) fun b' C' hg' off h => ?_
        have hl := live_dead ⟨Y, hY, hd⟩
        have hbb : b' ≠ b := fun e => hl.2 (hi.sep q o b C' C hl.1 ⟨X, ho, hne⟩ (e ▸ hg') hg)
        cases hc : memAdd m w b ⟨b', off, none⟩ with
        | none => rfl
        | some x =>
          rcases memAdd_new hc with h1 | ⟨h1, _⟩
          · rw [h] at h1; cases h1
          · exact absurd h1 hbb
    · rcases memAdd_new h with h1 | ⟨h1, _⟩
      · exact .inl h1
      · exact .inr (.inr ⟨o, C, by rw [h1]; exact hg⟩)
  rcases hX with ⟨T, S, rows, rfl⟩ | ⟨T, cells, rfl⟩
  · rcases hob with ⟨g1, g2⟩ | ⟨b, C, cs, g1, g2, g3, g4, g5, g6, g7, g8⟩
    · exact ⟨m, ⟨⟨fun _ _ h => h, fun _ _ h _ => h⟩, (fun T' S' rows' e => (by cases e; exact .inl ⟨g1, g2⟩)), (fun _ _ e => (by cases e))⟩, inv_dead hi o, Trans.refl _ _ _⟩
    · obtain ⟨h1, h2, h3⟩ := key b C g1 g8 (by simp)
      refine ⟨_, ⟨h1, fun T' S' rows' e => ?_, (fun _ _ e => (by cases e))⟩, h2, h3⟩
      cases e
      refine .inr ⟨b, C, g1, g4, rows_of_cells g6 (repVals_le h1 _ _ (freeVals_nil _) g7) fun i x hx => ?_⟩
      rw [memAdd_at (g8 _), g2.cell, Nat.zero_add]
      rw [List.getElem?_take] at hx
      split at hx
      · simpa using hx
      · cases hx
  · obtain ⟨b, cs, g1, g2, g3, g4⟩ := hob
    obtain ⟨h1, h2, h3⟩ := key b 0 g1 g4 (by simp)
    refine ⟨_, ⟨h1, (fun _ _ _ e => (by cases e)), fun T' cells' e => ?_⟩, h2, h3⟩
    cases e
    refine ⟨b, g1, repCells_of_get fun i c hc => ?_⟩
    obtain ⟨x, hx, hr⟩ := repVals_get g3 i c hc
    exact ⟨x, by rw [memAdd_at (g4 _), (CA.of_plain g2).cell, Nat.zero_add]; simpa using hx, rep_le h1 _ _ (AV.free_nil _) hr⟩


/-- What is known of the objects from K on that were frozen. -/
structure FzA (m : Mem) (γ : Gam) (obs : List Ob) (K j : Nat) (m' : Mem) : Prop where
  le : Le m γ [] m' γ
  row : ∀ (o T S : Nat) (rows : List (List AV)), K ≤ o → o < K + j → obs[o]? = some (.row T S rows) → (γ o = some none ∧ rows = []) ∨ ∃ b C, γ o = some (some (b, C)) ∧ rows.length ≤ C ∧ RepRows m' γ S rows b 0
  box : ∀ (o : Nat) (Tb : TypeId) (cells : List AV), K ≤ o → o < K + j → obs[o]? = some (.box Tb cells) → ∃ b, γ o = some (some (b, 0)) ∧ RepCells m' γ cells b 0
def killN (K : Nat) (obs : List Ob) : Nat → List Ob
  | 0 => obs
  | j + 1 => (killN K obs j).set (K + j) .dead
theorem killN_len (K : Nat) (obs : List Ob) : ∀ j, (killN K obs j).length = obs.length
  | 0 => rfl
  | j + 1 => by rw [killN, List.length_set, killN_len K obs j]
theorem killN_get (K : Nat) (obs : List Ob) : ∀ (j i : Nat), (i < K ∨ K + j ≤ i) → (killN K obs j)[i]? = obs[i]?
  | 0, i, _ => rfl
  | j + 1, i, h => by rw [killN, List.getElem?_set_ne (by omega), killN_get K obs j i (by omega)]
theorem killN_take {K : Nat} {obs ob : List Ob} (h : obs.take K = ob) (j : Nat) : ∃ xs, killN K obs j = ob ++ xs := by
  refine ⟨(killN K obs j).drop K, ?_⟩
  conv => lhs; rw [← List.take_append_drop K (killN K obs j)]
  congr 1
  rw [← h]
  apply List.ext_getElem?
  intro i
  rw [List.getElem?_take, List.getElem?_take]
  split
  · rename_i hi; exact killN_get K obs j i (.inl hi)
  · rfl
theorem inv_freezeAll {m : Mem} {γ : Gam} {obs : List Ob} {w : World} (hi : Inv m γ obs w) (K : Nat) : ∀ j, ∃ m', FzA m γ obs K j m' ∧ Inv m' γ (killN K obs j) w ∧ Trans m γ w m' γ w
  | 0 => ⟨m, ⟨⟨fun _ _ h => h, fun _ _ h _ => h⟩, fun o T S rows h1 h2 => by omega, fun o Tb cells h1 h2 => by omega⟩, hi, Trans.refl _ _ _⟩
  | j + 1 => by
    obtain ⟨m1, h1, h2, h3⟩ := inv_freezeAll hi K j
    have hget := killN_get K obs j (K + j) (.inr (Nat.le_refl _))
    have skip : (∀ X, obs[K + j]? = some X → (∀ T S rows, X ≠ .row T S rows) ∧ ∀ Tb cells, X ≠ .box Tb cells) → ∃ m', FzA m γ obs K (j + 1) m' ∧ Inv m' γ (killN K obs (j + 1)) w ∧ Trans m γ w m' γ w := fun hX =>
      ⟨m1, ⟨h1.le, fun o T S rows a b c => by
        by_cases e : o = K + j
        · subst e; exact absurd rfl ((hX _ c).1 T S rows)
        · exact h1.row o T S rows a (by omega) c, fun o Tb cells a b c => by
        by_cases e : o = K + j
        · subst e; exact absurd rfl ((hX _ c).2 Tb cells)
        · exact h1.box o Tb cells a (by omega) c⟩, inv_dead h2 _, h3⟩
    have go : ∀ X, obs[K + j]? = some X → ((∃ T S rows, X = .row T S rows) ∨ ∃ Tb cells, X = .box Tb cells) → ∃ m', FzA m γ obs K (j + 1) m' ∧ Inv m' γ (killN K obs (j + 1)) w ∧ Trans m γ w m' γ w := by
      intro X hX hk
      obtain ⟨m2, k1, k2, k3⟩ := inv_freeze h2 (hget.trans hX) hk
      refine ⟨m2, ⟨⟨fun a x h => k1.le.mem a x (h1.le.mem a x h), fun o g hg _ => hg⟩, fun o T S rows a b c => ?_, fun o Tb cells a b c => ?_⟩, k2, h3.trans k3⟩
      · by_cases e : o = K + j
        · subst e
          rw [hX] at c
          cases c
          exact k1.row T S rows rfl
        · rcases h1.row o T S rows a (by omega) c with q | ⟨b', C, q1, q2, q3⟩
          · exact .inl q
          · exact .inr ⟨b', C, q1, q2, repRows_le k1.le S rows b' 0 (freeRows_nil _) q3⟩
      · by_cases e : o = K + j
        · subst e
          rw [hX] at c
          cases c
          exact k1.box Tb cells rfl
        · obtain ⟨b', q1, q2⟩ := h1.box o Tb cells a (by omega) c
          exact ⟨b', q1, repCells_le k1.le cells b' 0 (freeVals_nil _) q2⟩
    cases hX : obs[K + j]? with
    | none => exact skip fun X h => by rw [hX] at h; cases h
    | some X =>
      cases X with
      | row T S rows => exact go _ hX (.inl ⟨T, S, rows, rfl⟩)
      | box T cells => exact go _ hX (.inr ⟨T, cells, rfl⟩)
      | dead => exact skip fun X h => by rw [hX] at h; cases h; exact ⟨by simp, by simp⟩
      | mp keys vals => exact skip fun X h => by rw [hX] at h; cases h; exact ⟨by simp, by simp⟩
      | lp a b c d => exact skip fun X h => by rw [hX] at h; cases h; exact ⟨by simp, by simp⟩

/-! ### Values told anew -/
def mapO {α β : Type} (g : α → Option β) : List α → Option (List β)
  | [] => some []
  | c :: cs => match g c, mapO g cs with
    | some d, some ds => some (d :: ds)
    | _, _ => none
def frzV (obs : List Ob) (K : Nat) : Nat → AV → Option AV
  | 0, _ => none
  | k + 1, av => match av with
    | .any => some .any
    | .v x => some (.v x)
    | .sl S rows => (mapO (mapO (frzV obs K k)) rows).map (.sl S)
    | .ag cs => (mapO (frzV obs K k) cs).map .ag
    | .tu cs => (mapO (frzV obs K k) cs).map .tu
    | .pt o off => cond (Nat.blt o K) none (match obs[o]? with
      | some (.box _ cells) => (mapO (frzV obs K k) (cells.drop off)).map .pf
      | _ => none)
    | .pf cs => (mapO (frzV obs K k) cs).map .pf
    | .sr o S lo len => cond (Nat.blt o K) none (match obs[o]? with
      | some (.row _ S' rows) => cond (Nat.beq S S' && Nat.ble (lo + len) rows.length) ((mapO (mapO (frzV obs K k)) ((rows.drop lo).take len)).map (.sl S)) none
      | _ => none)
    | .fn f fs cs => match mapO (frzV obs K k) fs, mapO (frzV obs K k) cs with
      | some a, some b => some (.fn f a b)
      | _, _ => none
    | .ifc t y => (frzV obs K k y).map (.ifc t)
    | .mp _ => none
    | .yl _ => none
    | .cl _ _ => none
section
variable {m : Mem} {γ : Gam} {g : AV → Option AV}
def GOk (m : Mem) (γ : Gam) (g : AV → Option AV) : Prop := ∀ c c', g c = some c' → ∀ x, Rep m γ c x → Rep m γ c' x
theorem mapO_cons {α β : Type} {g : α → Option β} {c : α} {cs : List α} {r : List β} (h : mapO g (c :: cs) = some r) : ∃ d ds, g c = some d ∧ mapO g cs = some ds ∧ r = d :: ds := by
  simp only [mapO] at h
  split at h
  · rename_i d ds h1 h2
    cases h
    exact ⟨d, ds, h1, h2, rfl⟩
  · cases h
theorem mapO_len {α β : Type} {g : α → Option β} : ∀ {cs : List α} {r : List β}, mapO g cs = some r → r.length = cs.length
  | [], r, h => by cases h; rfl
  | c :: cs, r, h => by
    obtain ⟨d, ds, _, h2, rfl⟩ := mapO_cons h
    simp [mapO_len h2]
theorem mapO_reps (hg : GOk m γ g) : ∀ {cs r : List AV} {xs : List Value}, mapO g cs = some r → RepVals m γ cs xs → RepVals m γ r xs
  | [], r, xs, h, hr => by cases h; exact hr
  | c :: cs, r, xs, h, hr => by
    obtain ⟨d, ds, h1, h2, rfl⟩ := mapO_cons h
    simp only [RepVals] at hr ⊢
    obtain ⟨x, q, e, k1, k2⟩ := hr
    exact ⟨x, q, e, hg _ _ h1 x k1, mapO_reps hg h2 k2⟩
theorem mapO_cells (hg : GOk m γ g) : ∀ {cs r : List AV} {b off : Nat}, mapO g cs = some r → RepCells m γ cs b off → RepCells m γ r b off
  | [], r, b, off, h, hr => by cases h; exact hr
  | c :: cs, r, b, off, h, hr => by
    obtain ⟨d, ds, h1, h2, rfl⟩ := mapO_cons h
    simp only [RepCells] at hr ⊢
    obtain ⟨⟨x, k0, k1⟩, k2⟩ := hr
    exact ⟨⟨x, k0, hg _ _ h1 x k1⟩, mapO_cells hg h2 k2⟩
theorem mapO_rows (hg : GOk m γ g) {S : Nat} : ∀ {rows r : List (List AV)} {b off : Nat}, mapO (mapO g) rows = some r → RepRows m γ S rows b off → RepRows m γ S r b off
  | [], r, b, off, h, hr => by cases h; exact hr
  | c :: cs, r, b, off, h, hr => by
    obtain ⟨d, ds, h1, h2, rfl⟩ := mapO_cons h
    simp only [RepRows] at hr ⊢
    obtain ⟨k0, k1, k2⟩ := hr
    exact ⟨(mapO_len h1).trans k0, mapO_cells hg h1 k1, mapO_rows hg h2 k2⟩
end
theorem map_some {α β : Type} {o : Option α} {f : α → β} {r : β} (h : o.map f = some r) : ∃ a, o = some a ∧ r = f a := by
  cases o with
  | none => cases h
  | some a => exact ⟨a, rfl, by simpa using h.symm⟩
theorem frzV_ok {m0 m : Mem} {γ : Gam} {obs : List Ob} {K j : Nat} (hF : FzA m0 γ obs K j m) (hj : obs.length ≤ K + j) : ∀ k, GOk m γ (frzV obs K k)
  | 0 => fun c c' h => by cases h
  | k + 1 => by
    have ih := frzV_ok hF hj k
    intro c c' h x hr
    cases c with
    | any => simp only [frzV, Option.some.injEq] at h; subst h; exact hr
    | v y => simp only [frzV, Option.some.injEq] at h; subst h; exact hr
    | sl S rows =>
      obtain ⟨rows', h1, rfl⟩ := map_some (show (mapO (mapO (frzV obs K k)) rows).map (.sl S) = some c' from h)
      simp only [Rep] at hr ⊢
      obtain ⟨a, len, cap, e1, e2, e3, e4⟩ := hr
      refine ⟨a, len, cap, e1, by rw [e2, mapO_len h1], e3, ?_⟩
      rcases e4 with rfl | ⟨b, off, e5, e6⟩
      · cases h1; exact .inl rfl
      · exact .inr ⟨b, off, e5, mapO_rows ih h1 e6⟩
    | ag cs =>
      obtain ⟨cs', h1, rfl⟩ := map_some (show (mapO (frzV obs K k) cs).map .ag = some c' from h)
      simp only [Rep] at hr ⊢
      obtain ⟨xs, e1, e2⟩ := hr
      exact ⟨xs, e1, mapO_reps ih h1 e2⟩
    | tu cs =>
      obtain ⟨cs', h1, rfl⟩ := map_some (show (mapO (frzV obs K k) cs).map .tu = some c' from h)
      simp only [Rep] at hr ⊢
      obtain ⟨xs, e1, e2⟩ := hr
      exact ⟨xs, e1, mapO_reps ih h1 e2⟩
    | pf cs =>
      obtain ⟨cs', h1, rfl⟩ := map_some (show (mapO (frzV obs K k) cs).map .pf = some c' from h)
      simp only [Rep] at hr ⊢
      obtain ⟨b, off, e1, e2⟩ := hr
      exact ⟨b, off, e1, mapO_cells ih h1 e2⟩
    | fn f fs cs =>
      simp only [frzV] at h
      split at h
      · rename_i a b h1 h2
        cases h
        simp only [Rep] at hr ⊢
        obtain ⟨xs, ys, e1, e2, e3⟩ := hr
        exact ⟨xs, ys, e1, mapO_reps ih h1 e2, mapO_reps ih h2 e3⟩
      · cases h
    | ifc t y =>
      obtain ⟨y', h1, rfl⟩ := map_some (show (frzV obs K k y).map (.ifc t) = some c' from h)
      simp only [Rep] at hr ⊢
      obtain ⟨z, e1, e2⟩ := hr
      exact ⟨z, e1, ih _ _ h1 z e2⟩
    | mp o => cases h
    | yl o => cases h
    | cl S rows => cases h
    | pt o off =>
      simp only [frzV] at h
      cases hK : Nat.blt o K with
      | true => rw [hK] at h; cases h
      | false =>
        rw [hK] at h
        simp only [cond_false] at h
        have hKo : K ≤ o := by
          rcases Nat.lt_or_ge o K with q | q
          · have : Nat.blt o K = true := Nat.ble_eq_true_of_le q
            rw [hK] at this; cases this
          · exact q
        split at h
        · rename_i Tb cells ho
          obtain ⟨cs', h1, rfl⟩ := map_some h
          have hlt := (List.getElem?_eq_some_iff.1 ho).1
          simp only [Rep] at hr ⊢
          obtain ⟨b, C, g1, rfl⟩ := hr
          obtain ⟨b', q1, q2⟩ := hF.box o Tb cells hKo (by omega) ho
          rw [g1] at q1
          cases q1
          have := repCells_drop q2 off
          rw [Nat.zero_add] at this
          exact ⟨b, off, rfl, mapO_cells ih h1 this⟩
        · cases h
    | sr o S lo len =>
      simp only [frzV] at h
      cases hK : Nat.blt o K with
      | true => rw [hK] at h; cases h
      | false =>
        rw [hK] at h
        simp only [cond_false] at h
        have hKo : K ≤ o := by
          rcases Nat.lt_or_ge o K with q | q
          · have : Nat.blt o K = true := Nat.ble_eq_true_of_le q
            rw [hK] at this; cases this
          · exact q
        split at h
        · rename_i T S' rows ho
          cases hc : Nat.beq S S' && Nat.ble (lo + len) rows.length with
          | false => rw [hc] at h; cases h
          | true =>
            rw [hc] at h
            simp only [Bool.and_eq_true] at hc
            have := Nat.eq_of_beq_eq_true hc.1
            subst this
            have hle := Nat.le_of_ble_eq_true hc.2
            obtain ⟨rows', h1, rfl⟩ := map_some (show (mapO (mapO (frzV obs K k)) ((rows.drop lo).take len)).map (.sl S) = some c' from h)
            have hlt := (List.getElem?_eq_some_iff.1 ho).1
            have hl : ((rows.drop lo).take len).length = len := by simp; omega
            have hl' : rows'.length = len := (mapO_len h1).trans hl
            simp only [Rep] at hr ⊢
            rcases hr with ⟨_, ⟨a, rfl⟩, rfl, rfl⟩ | ⟨b, C, cap, g1, g2, g3, g4, g5⟩
            · exact ⟨a, 0, 0, rfl, hl'.symm, Nat.le_refl _, .inl (List.eq_nil_of_length_eq_zero hl')⟩
            · rcases g5 with rfl | ⟨rfl, _, a, rfl⟩
              · refine ⟨_, _, _, rfl, hl'.symm, g3, ?_⟩
                rcases hF.row o T S rows hKo (by omega) ho with ⟨q1, _⟩ | ⟨b', C', q1, _, q3⟩
                · rw [g1] at q1; cases q1
                · rw [g1] at q1
                  cases q1
                  have := repRows_drop q3 lo
                  rw [Nat.zero_add] at this
                  exact .inr ⟨b, lo * S, rfl, mapO_rows ih h1 (repRows_take this len)⟩
              · exact ⟨_, _, _, rfl, hl'.symm, g3, .inl (List.eq_nil_of_length_eq_zero hl')⟩
        · cases h
/-- ALL OBJECTS THAT A CALL MADE ARE FROZEN; what it was handed stands. -/
theorem aret_frzAll {P : Program} {f : FuncId} {args : List AV} {ob obs : List Ob} {r r' : AV} (h : ARet P f args ob [] r obs) (k : Nat) (hob : obs.take ob.length = ob) (hr : frzV obs ob.length k r = some r') (hu : r'.und ob.length = true) : ARet P f args ob [] r' ob := by
  refine aret_dropR ⟨h.1, fun m γ w vs hi hv => (h.2 m γ w vs hi hv).mono ?_⟩ hu
  rintro e w' ⟨m', γ', r0, o0, ⟨rfl, rfl⟩, h2, h3, h4, h5⟩
  obtain ⟨m2, k1, k2, k3⟩ := inv_freezeAll h4 ob.length o0.length
  refine ⟨m2, γ', .ret r', _, ⟨rfl, killN_take hob _⟩, ?_, h3.trans k3, k2, h5⟩
  cases e with
  | returned v => exact frzV_ok k1 (Nat.le_add_left _ _) k _ _ hr v (rep_le k1.le _ _ (AV.free_nil _) h2)
  | panicked c => exact h2.elim
  | outgrown => exact h2.elim
end Go.Am
