/-
  An abstract machine, part K: a call sees of the objects just those that it is handed.
-/
import Derived.Test.YtobehholoenaiaaGreatDoorAmJ
namespace Go.Am

mutual
/-- Numbers of objects, told by others. -/
def AV.ren (f : Nat → Nat) : AV → AV
  | .any => .any
  | .v x => .v x
  | .sl S rows => .sl S (renRows f rows)
  | .ag cs => .ag (renVals f cs)
  | .tu cs => .tu (renVals f cs)
  | .pt o off => .pt (f o) off
  | .pf cs => .pf (renVals f cs)
  | .sr o S lo len => .sr (f o) S lo len
  | .fn g fs cs => .fn g (renVals f fs) (renVals f cs)
  | .ifc t y => .ifc t (y.ren f)
  | .mp o => .mp (f o)
  | .yl o => .yl (f o)
  | .cl S rows => .cl S (renRows f rows)
def renVals (f : Nat → Nat) : List AV → List AV
  | [] => []
  | c :: cs => c.ren f :: renVals f cs
def renRows (f : Nat → Nat) : List (List AV) → List (List AV)
  | [] => []
  | r :: rs => renVals f r :: renRows f rs
end
mutual
/-- Names no object. -/
def AV.pure : AV → Bool
  | .any => true
  | .v _ => true
  | .sl _ rows => pureRows rows
  | .ag cs => pureVals cs
  | .tu cs => pureVals cs
  | .pt _ _ => false
  | .pf cs => pureVals cs
  | .sr _ _ _ _ => false
  | .fn _ fs cs => pureVals fs && pureVals cs
  | .ifc _ y => y.pure
  | .mp _ => false
  | .yl _ => false
  | .cl _ rows => pureRows rows
def pureVals : List AV → Bool
  | [] => true
  | c :: cs => c.pure && pureVals cs
def pureRows : List (List AV) → Bool
  | [] => true
  | r :: rs => pureVals r && pureRows rs
end
mutual
theorem ren_pure (f : Nat → Nat) : ∀ av : AV, av.pure = true → av.ren f = av
  | .any, _ => by simp [AV.ren]
  | .v _, _ => by simp [AV.ren]
  | .sl _ rows, h => by simp only [AV.pure] at h; simp [AV.ren, renRows_pure f rows h]
  | .ag cs, h => by simp only [AV.pure] at h; simp [AV.ren, renVals_pure f cs h]
  | .tu cs, h => by simp only [AV.pure] at h; simp [AV.ren, renVals_pure f cs h]
  | .pt _ _, h => by simp [AV.pure] at h
  | .pf cs, h => by simp only [AV.pure] at h; simp [AV.ren, renVals_pure f cs h]
  | .sr _ _ _ _, h => by simp [AV.pure] at h
  | .fn _ fs cs, h => by simp only [AV.pure, Bool.and_eq_true] at h; simp [AV.ren, renVals_pure f fs h.1, renVals_pure f cs h.2]
  | .ifc _ y, h => by simp only [AV.pure] at h; simp [AV.ren, ren_pure f y h]
  | .mp _, h => by simp [AV.pure] at h
  | .yl _, h => by simp [AV.pure] at h
  | .cl _ rows, h => by simp only [AV.pure] at h; simp [AV.ren, renRows_pure f rows h]
theorem renVals_pure (f : Nat → Nat) : ∀ cs : List AV, pureVals cs = true → renVals f cs = cs
  | [], _ => by simp [renVals]
  | c :: cs, h => by simp only [pureVals, Bool.and_eq_true] at h; simp [renVals, ren_pure f c h.1, renVals_pure f cs h.2]
theorem renRows_pure (f : Nat → Nat) : ∀ rows : List (List AV), pureRows rows = true → renRows f rows = rows
  | [], _ => by simp [renRows]
  | r :: rs, h => by simp only [pureRows, Bool.and_eq_true] at h; simp [renRows, renVals_pure f r h.1, renRows_pure f rs h.2]
end
mutual
theorem free_pure (ks : List Nat) : ∀ av : AV, av.pure = true → av.free ks = true
  | .any, _ => by simp [AV.free]
  | .v _, _ => by simp [AV.free]
  | .sl _ rows, h => by simp only [AV.pure] at h; simp [AV.free, freeRows_pure ks rows h]
  | .ag cs, h => by simp only [AV.pure] at h; simp [AV.free, freeVals_pure ks cs h]
  | .tu cs, h => by simp only [AV.pure] at h; simp [AV.free, freeVals_pure ks cs h]
  | .pt _ _, h => by simp [AV.pure] at h
  | .pf cs, h => by simp only [AV.pure] at h; simp [AV.free, freeVals_pure ks cs h]
  | .sr _ _ _ _, h => by simp [AV.pure] at h
  | .fn _ fs cs, h => by simp only [AV.pure, Bool.and_eq_true] at h; simp [AV.free, freeVals_pure ks fs h.1, freeVals_pure ks cs h.2]
  | .ifc _ y, h => by simp only [AV.pure] at h; simp [AV.free, free_pure ks y h]
  | .mp _, h => by simp [AV.pure] at h
  | .yl _, h => by simp [AV.pure] at h
  | .cl _ rows, h => by simp only [AV.pure] at h; simp [AV.free, freeRows_pure ks rows h]
theorem freeVals_pure (ks : List Nat) : ∀ cs : List AV, pureVals cs = true → freeVals ks cs = true
  | [], _ => by simp [freeVals]
  | c :: cs, h => by simp only [pureVals, Bool.and_eq_true] at h; simp [freeVals, free_pure ks c h.1, freeVals_pure ks cs h.2]
theorem freeRows_pure (ks : List Nat) : ∀ rows : List (List AV), pureRows rows = true → freeRows ks rows = true
  | [], _ => by simp [freeRows]
  | r :: rs, h => by simp only [pureRows, Bool.and_eq_true] at h; simp [freeRows, freeVals_pure ks r h.1, freeRows_pure ks rs h.2]
end
theorem renRows_length (f : Nat → Nat) : ∀ rows : List (List AV), (renRows f rows).length = rows.length
  | [] => rfl
  | r :: rs => by simp [renRows, renRows_length f rs]
theorem renVals_length (f : Nat → Nat) : ∀ cs : List AV, (renVals f cs).length = cs.length
  | [] => rfl
  | r :: rs => by simp [renVals, renVals_length f rs]
theorem renVals_append (f : Nat → Nat) : ∀ a b : List AV, renVals f (a ++ b) = renVals f a ++ renVals f b
  | [], b => rfl
  | c :: a, b => by simp [renVals, renVals_append f a b]
theorem renRows_flat (f : Nat → Nat) : ∀ rows : List (List AV), (renRows f rows).flatten = renVals f rows.flatten
  | [] => rfl
  | r :: rs => by simp [renRows, renRows_flat f rs, renVals_append]
theorem renRows_all {S : Nat} (f : Nat → Nat) : ∀ {rows : List (List AV)}, (∀ r ∈ renRows f rows, r.length = S) ↔ (∀ r ∈ rows, r.length = S)
  | [] => by simp [renRows]
  | r :: rs => by simp only [renRows, List.mem_cons, forall_eq_or_imp, renVals_length, renRows_all f (rows := rs)]

section
variable {m : Mem} {γ : Gam} {f : Nat → Nat}
mutual
theorem rep_ren : ∀ (av : AV) (x : Value), Rep m (fun k => γ (f k)) av x ↔ Rep m γ (av.ren f) x
  | .any, _ => by simp [AV.ren, Rep]
  | .v _, _ => by simp [AV.ren, Rep]
  | .sl S rows, x => by
    simp only [AV.ren, Rep, renRows_length]
    constructor
    · rintro ⟨a, len, cap, h1, h2, h3, h4⟩
      refine ⟨a, len, cap, h1, h2, h3, ?_⟩
      rcases h4 with h4 | ⟨b, off, h5, h6⟩
      · left; subst h4; rfl
      · right; exact ⟨b, off, h5, (repRows_ren S rows b off).1 h6⟩
    · rintro ⟨a, len, cap, h1, h2, h3, h4⟩
      refine ⟨a, len, cap, h1, h2, h3, ?_⟩
      rcases h4 with h4 | ⟨b, off, h5, h6⟩
      · left
        have := renRows_length f rows
        rw [h4] at this
        exact List.eq_nil_of_length_eq_zero this.symm
      · right; exact ⟨b, off, h5, (repRows_ren S rows b off).2 h6⟩
  | .ag cs, x => by
    simp only [AV.ren, Rep]
    constructor
    · rintro ⟨xs, h1, h2⟩; exact ⟨xs, h1, (repVals_ren cs xs).1 h2⟩
    · rintro ⟨xs, h1, h2⟩; exact ⟨xs, h1, (repVals_ren cs xs).2 h2⟩
  | .tu cs, x => by
    simp only [AV.ren, Rep]
    constructor
    · rintro ⟨xs, h1, h2⟩; exact ⟨xs, h1, (repVals_ren cs xs).1 h2⟩
    · rintro ⟨xs, h1, h2⟩; exact ⟨xs, h1, (repVals_ren cs xs).2 h2⟩
  | .pt o off, x => by simp [AV.ren, Rep]
  | .pf cs, x => by
    simp only [AV.ren, Rep]
    constructor
    · rintro ⟨b, off, h1, h2⟩; exact ⟨b, off, h1, (repCells_ren cs b off).1 h2⟩
    · rintro ⟨b, off, h1, h2⟩; exact ⟨b, off, h1, (repCells_ren cs b off).2 h2⟩
  | .sr o S lo len, x => by simp [AV.ren, Rep]
  | .fn g fs cs, x => by
    simp only [AV.ren, Rep]
    constructor
    · rintro ⟨xs, ys, h1, h2, h3⟩; exact ⟨xs, ys, h1, (repVals_ren fs xs).1 h2, (repVals_ren cs ys).1 h3⟩
    · rintro ⟨xs, ys, h1, h2, h3⟩; exact ⟨xs, ys, h1, (repVals_ren fs xs).2 h2, (repVals_ren cs ys).2 h3⟩
  | .ifc t y, x => by
    simp only [AV.ren, Rep]
    constructor
    · rintro ⟨z, h1, h2⟩; exact ⟨z, h1, (rep_ren y z).1 h2⟩
    · rintro ⟨z, h1, h2⟩; exact ⟨z, h1, (rep_ren y z).2 h2⟩
  | .mp o, x => by simp [AV.ren, Rep]
  | .yl o, x => by simp [AV.ren, Rep]
  | .cl S rows, x => by
    simp only [AV.ren, Rep, renRows_length]
    constructor
    · rintro ⟨a, len, h1, h2, h4⟩
      refine ⟨a, len, h1, h2, ?_⟩
      rcases h4 with h4 | ⟨b, off, h5, h6⟩
      · left; subst h4; rfl
      · right; exact ⟨b, off, h5, (repRows_ren S rows b off).1 h6⟩
    · rintro ⟨a, len, h1, h2, h4⟩
      refine ⟨a, len, h1, h2, ?_⟩
      rcases h4 with h4 | ⟨b, off, h5, h6⟩
      · left
        have := renRows_length f rows
        rw [h4] at this
        exact List.eq_nil_of_length_eq_zero this.symm
      · right; exact ⟨b, off, h5, (repRows_ren S rows b off).2 h6⟩
theorem repVals_ren : ∀ (cs : List AV) (xs : List Value), RepVals m (fun k => γ (f k)) cs xs ↔ RepVals m γ (renVals f cs) xs
  | [], xs => by simp [renVals, RepVals]
  | c :: cs, xs => by
    simp only [renVals, RepVals]
    constructor
    · rintro ⟨x, r, h1, h2, h3⟩; exact ⟨x, r, h1, (rep_ren c x).1 h2, (repVals_ren cs r).1 h3⟩
    · rintro ⟨x, r, h1, h2, h3⟩; exact ⟨x, r, h1, (rep_ren c x).2 h2, (repVals_ren cs r).2 h3⟩
theorem repCells_ren : ∀ (cs : List AV) (b off : Nat), RepCells m (fun k => γ (f k)) cs b off ↔ RepCells m γ (renVals f cs) b off
  | [], b, off => by simp [renVals, RepCells]
  | c :: cs, b, off => by
    simp only [renVals, RepCells]
    constructor
    · rintro ⟨⟨x, h1, h2⟩, h3⟩; exact ⟨⟨x, h1, (rep_ren c x).1 h2⟩, (repCells_ren cs b (off + 1)).1 h3⟩
    · rintro ⟨⟨x, h1, h2⟩, h3⟩; exact ⟨⟨x, h1, (rep_ren c x).2 h2⟩, (repCells_ren cs b (off + 1)).2 h3⟩
theorem repRows_ren (S : Nat) : ∀ (rows : List (List AV)) (b off : Nat), RepRows m (fun k => γ (f k)) S rows b off ↔ RepRows m γ S (renRows f rows) b off
  | [], b, off => by simp [renRows, RepRows]
  | r :: rs, b, off => by
    simp only [renRows, RepRows, renVals_length]
    constructor
    · rintro ⟨h1, h2, h3⟩; exact ⟨h1, (repCells_ren r b off).1 h2, (repRows_ren S rs b (off + S)).1 h3⟩
    · rintro ⟨h1, h2, h3⟩; exact ⟨h1, (repCells_ren r b off).2 h2, (repRows_ren S rs b (off + S)).2 h3⟩
end
end

def Ob.ren (f : Nat → Nat) : Ob → Ob
  | .dead => .dead
  | .box T cells => .box T (renVals f cells)
  | .row T S rows => .row T S (renRows f rows)
  | .mp keys vals => .mp keys (renVals f vals)
  | .lp busy k ts cs => .lp busy k ts (renVals f cs)
theorem obAt_ren {m : Mem} {γ : Gam} {w : World} {f : Nat → Nat} {o : Nat} {X : Ob} : ObAt m (fun k => γ (f k)) w o X ↔ ObAt m γ w (f o) (X.ren f) := by
  cases X with
  | dead => simp [Ob.ren, ObAt]
  | box T cells =>
    simp only [Ob.ren, ObAt]
    constructor
    · rintro ⟨b, cs, h1, h2, h3, h4⟩; exact ⟨b, cs, h1, h2, (repVals_ren _ _).1 h3, h4⟩
    · rintro ⟨b, cs, h1, h2, h3, h4⟩; exact ⟨b, cs, h1, h2, (repVals_ren _ _).2 h3, h4⟩
  | row T S rows =>
    simp only [Ob.ren, ObAt, renRows_length, renRows_flat]
    constructor
    · rintro (⟨h1, h2⟩ | ⟨b, C, cs, h1, h2, h3, h4, h5, h6, h7, h8⟩)
      · left; exact ⟨h1, by rw [h2]; rfl⟩
      · right; exact ⟨b, C, cs, h1, h2, h3, h4, h5, (renRows_all f).2 h6, (repVals_ren _ _).1 h7, h8⟩
    · rintro (⟨h1, h2⟩ | ⟨b, C, cs, h1, h2, h3, h4, h5, h6, h7, h8⟩)
      · left
        refine ⟨h1, List.eq_nil_of_length_eq_zero ?_⟩
        rw [← renRows_length f rows, h2]; rfl
      · right; exact ⟨b, C, cs, h1, h2, h3, h4, h5, (renRows_all f).1 h6, (repVals_ren _ _).2 h7, h8⟩
  | mp keys vals =>
    simp only [Ob.ren, ObAt]
    constructor
    · rintro ⟨b, es, clock, h1, h2, h3, h4, h5⟩; exact ⟨b, es, clock, h1, h2, h3, (repVals_ren _ _).1 h4, h5⟩
    · rintro ⟨b, es, clock, h1, h2, h3, h4, h5⟩; exact ⟨b, es, clock, h1, h2, h3, (repVals_ren _ _).2 h4, h5⟩
  | lp busy k ts cs =>
    simp only [Ob.ren, ObAt]
    constructor
    · rintro ⟨b, r, xs, h1, h2, h3, h4, h5, h6⟩; exact ⟨b, r, xs, h1, h2, h3, (repVals_ren _ _).1 h4, h5, h6⟩
    · rintro ⟨b, r, xs, h1, h2, h3, h4, h5, h6⟩; exact ⟨b, r, xs, h1, h2, h3, (repVals_ren _ _).2 h4, h5, h6⟩

/-- the number that the caller has for the callee's i-th object: the first ones are handed in, the others are new -/
def fsel (sel : List Nat) (N : Nat) (i : Nat) : Nat := match sel[i]? with
  | some s => s
  | none => N + (i - sel.length)
def setAll : List Ob → List Nat → List Ob → List Ob
  | ob, s :: sel, X :: obc => setAll (ob.set s X) sel obc
  | ob, _, _ => ob
def killObs (ks : List Nat) (ob : List Ob) : List Ob := match ks with
  | [] => ob
  | k :: ks => ob.map (killOb (k :: ks))
/-- the caller's objects behind a call -/
def back (ob : List Ob) (sel ks : List Nat) (obc : List Ob) : List Ob :=
  setAll (killObs (ks.map (fsel sel ob.length)) ob) sel ((obc.take sel.length).map (Ob.ren (fsel sel ob.length))) ++ (obc.drop sel.length).map (Ob.ren (fsel sel ob.length))

theorem setAll_length : ∀ (ob : List Ob) (sel : List Nat) (obc : List Ob), (setAll ob sel obc).length = ob.length
  | ob, [], obc => by cases obc <;> rfl
  | ob, s :: sel, [] => rfl
  | ob, s :: sel, X :: obc => by simp [setAll, setAll_length]
theorem setAll_get : ∀ {ob : List Ob} {sel : List Nat} {obc : List Ob}, sel.Nodup → sel.length = obc.length → (∀ s ∈ sel, s < ob.length) → (∀ (i s : Nat) (X : Ob), sel[i]? = some s → obc[i]? = some X → (setAll ob sel obc)[s]? = some X) ∧ (∀ j, j ∉ sel → (setAll ob sel obc)[j]? = ob[j]?)
  | ob, [], [], _, _, _ => ⟨fun i s X h => by simp at h, fun j _ => rfl⟩
  | ob, s :: sel, X :: obc, hn, hl, hs => by
    obtain ⟨hn1, hn2⟩ := List.nodup_cons.1 hn
    obtain ⟨k1, k2⟩ := setAll_get (ob := ob.set s X) (sel := sel) (obc := obc) hn2 (by simpa using hl) (fun t ht => by simpa using hs t (List.mem_cons_of_mem _ ht))
    refine ⟨fun i t Y hi hY => ?_, fun j hj => ?_⟩
    · cases i with
      | zero =>
        simp at hi hY; subst hi; subst hY
        simp only [setAll]
        rw [k2 s hn1, List.getElem?_set_self (hs s (by simp))]
      | succ i => exact k1 i t Y (by simpa using hi) (by simpa using hY)
    · simp only [List.mem_cons, not_or] at hj
      simp only [setAll]
      rw [k2 j hj.2, List.getElem?_set_ne (fun e => hj.1 e.symm)]
  | ob, [], X :: obc, _, hl, _ => by simp at hl
  | ob, s :: sel, [], _, hl, _ => by simp at hl

theorem fsel_lt {sel : List Nat} {N i s : Nat} (h : sel[i]? = some s) : fsel sel N i = s := by simp [fsel, h]
theorem fsel_ge {sel : List Nat} {N i : Nat} (h : sel.length ≤ i) : fsel sel N i = N + (i - sel.length) := by simp [fsel, List.getElem?_eq_none h]
/-- .. and back -/
def finv (sel : List Nat) (N j : Nat) : Option Nat := if N ≤ j then some (sel.length + (j - N)) else sel.idxOf? j
theorem finv_fsel {sel : List Nat} {N : Nat} (hn : sel.Nodup) (hs : ∀ s ∈ sel, s < N) (i : Nat) : finv sel N (fsel sel N i) = some i := by
  by_cases hi : i < sel.length
  · have h1 : sel[i]? = some sel[i] := List.getElem?_eq_getElem hi
    rw [fsel_lt h1]
    have h2 := hs _ (List.getElem_mem hi)
    unfold finv
    rw [if_neg (by omega)]
    rw [List.idxOf?_eq_some_iff]
    refine ⟨hi, by simp, fun j hj => ?_⟩
    have := List.pairwise_iff_getElem.1 hn j i (by omega) hi hj
    simpa using this
  · rw [fsel_ge (by omega)]
    unfold finv
    rw [if_pos (by omega)]
    congr 1; omega
theorem finv_some {sel : List Nat} {N : Nat} {j i : Nat} (h : finv sel N j = some i) : fsel sel N i = j ∧ (j < N → i < sel.length ∧ sel[i]? = some j) := by
  unfold finv at h
  split at h
  · rename_i hN
    cases h
    exact ⟨by rw [fsel_ge (by omega)]; omega, fun h => by omega⟩
  · rw [List.idxOf?_eq_some_iff] at h
    obtain ⟨hi, h1, _⟩ := h
    have h2 : sel[i]? = some j := by rw [List.getElem?_eq_getElem hi]; simpa using h1
    exact ⟨fsel_lt h2, fun _ => ⟨hi, h2⟩⟩
theorem finv_none {sel : List Nat} {N j : Nat} (h : finv sel N j = none) : j < N ∧ j ∉ sel := by
  unfold finv at h
  split at h
  · cases h
  · exact ⟨by omega, by simpa using h⟩

section
variable {P : Program} {m : Mem} {γ : Gam} {ob : List Ob} {w : World}
theorem killObs_get {ks : List Nat} {j : Nat} : (killObs ks ob)[j]? = match ks with | [] => ob[j]? | k :: ks => (ob[j]?).map (killOb (k :: ks)) := by
  cases ks with
  | nil => rfl
  | cons k ks => simp [killObs]
theorem killObs_length (ks : List Nat) : (killObs ks ob).length = ob.length := by cases ks <;> simp [killObs]
/-- What the callee sees. -/
theorem inv_sel (hi : Inv m γ ob w) {sel : List Nat} {obc : List Ob} (hn : sel.Nodup) (hl : sel.length = obc.length) (hsel : ∀ (i s : Nat) (X : Ob), sel[i]? = some s → obc[i]? = some X → ob[s]? = some (X.ren (fsel sel ob.length)) ∧ X ≠ .dead) :
    Inv m (fun k => γ (fsel sel ob.length k)) obc w := by
  have key : ∀ (i : Nat) (X : Ob), obc[i]? = some X → ∃ s : Nat, sel[i]? = some s ∧ ob[s]? = some (X.ren (fsel sel ob.length)) ∧ X ≠ .dead := by
    intro i X hX
    have hi' : i < sel.length := by have := (List.getElem?_eq_some_iff.1 hX).1; omega
    have h1 : sel[i]? = some sel[i] := List.getElem?_eq_getElem hi'
    exact ⟨_, h1, hsel i _ X h1 hX⟩
  refine ⟨hi.mem, fun o X hX => ?_, fun o o' b C C' h1 h2 h3 h4 => ?_, fun o b C h => hi.dom _ b C h, fun o h => ?_⟩
  · obtain ⟨s, g1, g2, _⟩ := key o X hX
    refine obAt_ren.2 ?_
    rw [fsel_lt g1]
    exact hi.obj s _ g2
  · obtain ⟨X, hX, _⟩ := h1
    obtain ⟨Y, hY, _⟩ := h2
    obtain ⟨s, g1, g2, g3⟩ := key o X hX
    obtain ⟨t, k1, k2, k3⟩ := key o' Y hY
    rw [fsel_lt g1] at h3
    rw [fsel_lt k1] at h4
    have dd : ∀ {Z : Ob}, Z ≠ .dead → Z.ren (fsel sel ob.length) ≠ .dead := by intro Z hZ; cases Z <;> simp_all [Ob.ren]
    have e := hi.sep s t b C C' ⟨_, g2, dd g3⟩ ⟨_, k2, dd k3⟩ h3 h4
    subst e
    have o1 := (List.getElem?_eq_some_iff.1 g1).1
    have o2 := (List.getElem?_eq_some_iff.1 k1).1
    rcases Nat.lt_trichotomy o o' with h | h | h
    · have := List.pairwise_iff_getElem.1 hn o o' o1 o2 h
      rw [(List.getElem?_eq_some_iff.1 g1).2, (List.getElem?_eq_some_iff.1 k1).2] at this
      exact absurd rfl this
    · exact h
    · have := List.pairwise_iff_getElem.1 hn o' o o2 o1 h
      rw [(List.getElem?_eq_some_iff.1 g1).2, (List.getElem?_eq_some_iff.1 k1).2] at this
      exact absurd rfl this
  · by_cases h1 : o < sel.length
    · omega
    · have h2 := hi.len _ h
      rw [fsel_ge (by omega)] at h2
      omega
/-- What the caller has behind the call. -/
theorem inv_back (hi : Inv m γ ob w) {sel kk : List Nat} {obc obc' : List Ob} (hn : sel.Nodup) (hl : sel.length = obc.length) (hsel : ∀ (i s : Nat) (X : Ob), sel[i]? = some s → obc[i]? = some X → ob[s]? = some (X.ren (fsel sel ob.length)) ∧ X ≠ .dead)
    (hl' : sel.length ≤ obc'.length) (hkk : ∀ k ∈ kk, k < sel.length) {m' : Mem} {γc : Gam} {w' : World} (ht : Trans m (fun k => γ (fsel sel ob.length k)) w m' γc w') (hi' : Inv m' γc obc' w')
    (hkeep : ∀ o g, kk.contains o = false → γ (fsel sel ob.length o) = some g → γc o = some g) :
    ∃ γ', (∀ i, γ' (fsel sel ob.length i) = γc i) ∧ Trans m γ w m' γ' w' ∧ Le m γ (kk.map (fsel sel ob.length)) m' γ' ∧ Inv m' γ' (back ob sel kk obc') w' := by
  have hs : ∀ s ∈ sel, s < ob.length := by
    intro s h
    obtain ⟨i, hi1, hi2⟩ := List.getElem_of_mem h
    have h1 : sel[i]? = some s := by rw [List.getElem?_eq_getElem hi1, hi2]
    have h2 : obc[i]? = some (obc[i]'(by omega)) := List.getElem?_eq_getElem (by omega)
    exact (List.getElem?_eq_some_iff.1 (hsel i s _ h1 h2).1).1
  let f := fsel sel ob.length
  let γ' : Gam := fun j => match finv sel ob.length j with
    | some i => γc i
    | none => γ j
  have hf : ∀ i, γ' (f i) = γc i := fun i => by simp only [γ', f, finv_fsel hn hs]
  have hnone : ∀ j, finv sel ob.length j = none → γ' j = γ j := fun j h => by simp only [γ', h]
  have hsome : ∀ j i, finv sel ob.length j = some i → γ' j = γc i := fun j i h => by simp only [γ', h]
  have hingc : ∀ k, InG (fun k => γ (f k)) k → InG γ k := fun k ⟨o, C, h⟩ => ⟨f o, C, h⟩
  have hgam : ∀ k, k < w.heap.size → InG γ' k → InG γ k := by
    rintro k hk ⟨j, C, h⟩
    cases hv : finv sel ob.length j with
    | none => rw [hnone j hv] at h; exact ⟨j, C, h⟩
    | some i => rw [hsome j i hv] at h; exact hingc k (ht.gam k hk ⟨i, C, h⟩)
  have htr : Trans m γ w m' γ' w' := ⟨ht.mem, fun a x h => (ht.new a x h).imp id (Or.imp id (hingc _)), hgam, ht.os, ht.tape, ht.output, ht.size, fun k hk hno => ht.blk k hk (fun h => hno (hingc k h))⟩
  have hle : Le m γ (kk.map f) m' γ' := by
    refine ⟨ht.mem, fun o g hg hk => ?_⟩
    cases hv : finv sel ob.length o with
    | none => rw [hnone o hv]; exact hg
    | some i =>
      rw [hsome o i hv]
      obtain ⟨h1, _⟩ := finv_some hv
      refine hkeep i g ?_ (by rw [h1]; exact hg)
      cases hc : kk.contains i with
      | false => rfl
      | true =>
        have : (kk.map f).contains o = true := by
          simp only [List.contains_iff_mem, List.mem_map] at hc ⊢
          exact ⟨i, hc, h1⟩
        rw [this] at hk; cases hk
  have hlenb : (back ob sel kk obc').length = ob.length + (obc'.length - sel.length) := by
    unfold back; simp [setAll_length, killObs_length]
  have htake : sel.length = ((obc'.take sel.length).map (Ob.ren f)).length := by simp; omega
  obtain ⟨sg1, sg2⟩ := setAll_get (ob := killObs (kk.map f) ob) hn htake (fun s h => by rw [killObs_length]; exact hs s h)
  -- the caller's object of each number
  have hget : ∀ j Y, (back ob sel kk obc')[j]? = some Y → (∃ i X, finv sel ob.length j = some i ∧ obc'[i]? = some X ∧ Y = X.ren f) ∨ (finv sel ob.length j = none ∧ (killObs (kk.map f) ob)[j]? = some Y) := by
    intro j Y hY
    unfold back at hY
    have hsl : (setAll (killObs (kk.map f) ob) sel ((obc'.take sel.length).map (Ob.ren f))).length = ob.length := by rw [setAll_length, killObs_length]
    by_cases hj : j < ob.length
    · rw [List.getElem?_append_left (by rw [hsl]; exact hj)] at hY
      by_cases hjs : j ∈ sel
      · left
        obtain ⟨i, hi1, hi2⟩ := List.getElem_of_mem hjs
        have h1 : sel[i]? = some j := by rw [List.getElem?_eq_getElem hi1, hi2]
        have h2 : obc'[i]? = some (obc'[i]'(by omega)) := List.getElem?_eq_getElem (by omega)
        have h3 := sg1 i j ((obc'[i]'(by omega)).ren f) h1 (by rw [List.getElem?_map, List.getElem?_take, if_pos hi1, h2]; rfl)
        rw [h3] at hY; cases hY
        refine ⟨i, _, ?_, h2, rfl⟩
        have := finv_fsel hn hs i
        rw [fsel_lt h1] at this; exact this
      · right
        rw [sg2 j hjs] at hY
        refine ⟨?_, hY⟩
        unfold finv
        rw [if_neg (by omega)]
        simpa using hjs
    · left
      rw [List.getElem?_append_right (by rw [hsl]; omega), hsl, List.getElem?_map, List.getElem?_drop] at hY
      cases hX : obc'[sel.length + (j - ob.length)]? with
      | none => simp [hX] at hY
      | some X =>
        rw [hX] at hY
        simp only [Option.map_some, Option.some.injEq] at hY
        refine ⟨_, X, ?_, hX, hY.symm⟩
        unfold finv; rw [if_pos (by omega)]
  have hoth : ∀ j Y, finv sel ob.length j = none → (killObs (kk.map f) ob)[j]? = some Y → Y ≠ .dead → ∃ Z, ob[j]? = some Z ∧ Z ≠ .dead ∧ (Y = Z ∨ Y = killOb (kk.map f) Z) := by
    intro j Y hv hY hYd
    rw [killObs_get] at hY
    cases hkm : kk.map f with
    | nil => rw [hkm] at hY; exact ⟨Y, hY, hYd, .inl rfl⟩
    | cons k ks =>
      rw [hkm] at hY
      simp only at hY
      cases hZ : ob[j]? with
      | none => simp [hZ] at hY
      | some Z =>
        rw [hZ] at hY
        simp only [Option.map_some, Option.some.injEq] at hY
        exact ⟨Z, rfl, fun e => hYd (by rw [← hY, e]; rfl), .inr (by rw [← hY])⟩
  -- a block of an object that was not handed in is none of those that were
  have hapart : ∀ j Z b C, finv sel ob.length j = none → ob[j]? = some Z → Z ≠ .dead → γ j = some (some (b, C)) → ¬ InG (fun k => γ (f k)) b := by
    rintro j Z b C hv hZ hZd hg ⟨i, C', h⟩
    obtain ⟨hjn, hjs⟩ := finv_none hv
    by_cases hi1 : i < sel.length
    · have h1 : sel[i]? = some sel[i] := List.getElem?_eq_getElem hi1
      have h2 : obc[i]? = some (obc[i]'(by omega)) := List.getElem?_eq_getElem (by omega)
      obtain ⟨h3, h4⟩ := hsel i _ _ h1 h2
      simp only [f] at h
      rw [fsel_lt h1] at h
      have := hi.sep j _ b C C' ⟨Z, hZ, hZd⟩ ⟨_, h3, by intro e; cases hx : obc[i]'(by omega) <;> simp_all [Ob.ren]⟩ hg h
      exact hjs (this ▸ List.getElem_mem hi1)
    · have h' : γ (f i) = some (some (b, C')) := h
      have := hi.len (f i) (by rw [h']; simp)
      simp only [f] at this
      rw [fsel_ge (by omega)] at this
      omega
  refine ⟨γ', hf, htr, hle, ⟨hi'.mem, fun j Y hY => ?_, fun j j' b C C' l1 l2 h1 h2 => ?_, fun j b C h => ?_, fun j h => ?_⟩⟩
  · rcases hget j Y hY with ⟨i, X, hv, hX, rfl⟩ | ⟨hv, hY2⟩
    · obtain ⟨h1, _⟩ := finv_some hv
      have h2 := hi'.obj i X hX
      have h3 : ObAt m' (fun k => γ' (f k)) w' i X := by
        have : (fun k => γ' (f k)) = γc := funext hf
        rw [this]; exact h2
      have := obAt_ren.1 h3
      rw [show f i = j from h1] at this
      exact this
    · by_cases hYd : Y = .dead
      · subst hYd; trivial
      · obtain ⟨Z, hZ, hZd, hYZ⟩ := hoth j Y hv hY2 hYd
        have hnb := hapart j Z
        have hjk : (kk.map f).contains j = false := by
          cases hc : (kk.map f).contains j with
          | false => rfl
          | true =>
            simp only [List.contains_iff_mem, List.mem_map] at hc
            obtain ⟨k, hk1, hk2⟩ := hc
            have hk3 := hkk k hk1
            have h1 : sel[k]? = some sel[k] := List.getElem?_eq_getElem hk3
            simp only [f] at hk2
            rw [fsel_lt h1] at hk2
            exact absurd (hk2 ▸ List.getElem_mem hk3) (finv_none hv).2
        have hob := hi.obj j Z hZ
        have hheap : ∀ b C, γ j = some (some (b, C)) → w'.heap[b]? = w.heap[b]? := fun b C hg => ht.blk b (hi.dom j b C hg) (hnb b C hv hZ hZd hg)
        have hmm : ∀ b C, γ j = some (some (b, C)) → ∀ off, m ⟨b, off, none⟩ = none → m' ⟨b, off, none⟩ = none := by
          intro b C hg off hno
          cases hm' : m' ⟨b, off, none⟩ with
          | none => rfl
          | some x =>
            exfalso
            rcases ht.new _ x hm' with h | h | h
            · rw [hno] at h; cases h
            · have := hi.dom j b C hg; simp at h; omega
            · exact hnb b C hv hZ hZd hg h
        rcases hYZ with rfl | rfl
        · by_cases hkm : kk.map f = []
          · rw [hkm] at hle; exact obAt_le0 hob hle hheap hmm
          · -- killObs acted: then Y is killed already
            have hY3 := hY2
            rw [killObs_get] at hY3
            cases hq : kk.map f with
            | nil => exact absurd hq hkm
            | cons k ks =>
              rw [hq] at hY3
              simp only [hZ, Option.map_some, Option.some.injEq] at hY3
              rw [← hY3, ← hq]
              exact obAt_le hob hle hjk hheap hmm
        · exact obAt_le hob hle hjk hheap hmm
  · obtain ⟨Y, hY, hYd⟩ := l1
    obtain ⟨Y', hY', hYd'⟩ := l2
    have dd : ∀ {Z : Ob}, Z.ren f ≠ .dead → Z ≠ .dead := by intro Z hZ e; subst e; exact hZ rfl
    rcases hget j Y hY with ⟨i, X, hv, hX, rfl⟩ | ⟨hv, hY2⟩
    · rcases hget j' Y' hY' with ⟨i', X', hv', hX', rfl⟩ | ⟨hv', hY2'⟩
      · rw [hsome j i hv] at h1
        rw [hsome j' i' hv'] at h2
        have := hi'.sep i i' b C C' ⟨X, hX, dd hYd⟩ ⟨X', hX', dd hYd'⟩ h1 h2
        rw [← (finv_some hv).1, ← (finv_some hv').1, this]
      · exfalso
        rw [hsome j i hv] at h1
        rw [hnone j' hv'] at h2
        obtain ⟨Z, hZ, hZd, _⟩ := hoth j' Y' hv' hY2' hYd'
        have hb := hi.dom j' b C' h2
        exact hapart j' Z b C' hv' hZ hZd h2 (ht.gam b hb ⟨i, C, h1⟩)
    · obtain ⟨Z, hZ, hZd, _⟩ := hoth j Y hv hY2 hYd
      rw [hnone j hv] at h1
      rcases hget j' Y' hY' with ⟨i', X', hv', hX', rfl⟩ | ⟨hv', hY2'⟩
      · exfalso
        rw [hsome j' i' hv'] at h2
        exact hapart j Z b C hv hZ hZd h1 (ht.gam b (hi.dom j b C h1) ⟨i', C', h2⟩)
      · obtain ⟨Z', hZ', hZd', _⟩ := hoth j' Y' hv' hY2' hYd'
        rw [hnone j' hv'] at h2
        exact hi.sep j j' b C C' ⟨Z, hZ, hZd⟩ ⟨Z', hZ', hZd'⟩ h1 h2
  · cases hv : finv sel ob.length j with
    | none => rw [hnone j hv] at h; exact Nat.lt_of_lt_of_le (hi.dom j b C h) ht.size
    | some i => rw [hsome j i hv] at h; exact hi'.dom i b C h
  · rw [hlenb]
    cases hv : finv sel ob.length j with
    | none => have := (finv_none hv).1; omega
    | some i =>
      rw [hsome j i hv] at h
      have h1 := hi'.len i h
      have h2 := (finv_some hv).1
      by_cases h3 : i < sel.length
      · have h4 : sel[i]? = some sel[i] := List.getElem?_eq_getElem h3
        rw [fsel_lt h4] at h2
        have := hs _ (List.getElem_mem h3)
        omega
      · rw [fsel_ge (by omega)] at h2
        omega
end
end Go.Am
