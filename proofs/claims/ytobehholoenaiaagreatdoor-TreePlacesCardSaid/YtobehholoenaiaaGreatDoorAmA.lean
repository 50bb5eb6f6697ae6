/-
  An abstract machine over the model's program logic, part A: abstract values, what they stand for in memory, and how that is kept when memory grows.
-/
import Derived.WalkKit
import Derived.ProofKit
import Derived.Orders
import Derived.OrdersIn
import Derived.TacticsIn
import Derived.Sort.LoopGhostIn
import Derived.RangeFuncRecord
import Derived.RangeFuncLeaves
import Derived.Test.YtobehholoenaiaaGreatDoorAmTab
namespace Go.Am

/-- the cells of the tables that are known -/
def glob (a : Addr) : Option Value := match a.spot with
  | none => match tabs.lookup a.block with
    | some cs => cs[a.off]?
    | none => none
  | some _ => none
/-- Memory that is never written again, the tables among it. -/
structure Mem where
  get : Addr → Option Value
  has : ∀ a x, glob a = some x → get a = some x
instance : CoeFun Mem fun _ => Addr → Option Value := ⟨Mem.get⟩
abbrev Gam := Nat → Option (Option (Nat × Nat))

/-- Abstract values. 'sl': a slice over memory that is never written again, as its rows of cells; 'pf': a pointer into such memory; 'pt', 'sr', 'mp': a pointer to, a slice over, a map that is, a live object, by its number; 'yl': the yield of a loop that is a live object. -/
inductive AV where
  | any
  | v (x : Value)
  | sl (S : Nat) (rows : List (List AV))
  | ag (cells : List AV)
  | tu (vs : List AV)
  | pt (o off : Nat)
  | pf (cells : List AV)
  | sr (o S lo len : Nat)
  | fn (f : Fn) (first captured : List AV)
  | ifc (t : TypeId) (x : AV)
  | mp (o : Nat)
  | yl (o : Nat)
  | cl (S : Nat) (rows : List (List AV))
  deriving Inhabited

mutual
def Rep (m : Mem) (γ : Gam) : AV → Value → Prop
  | .any, _ => True
  | .v y, x => x = y
  | .sl S rows, x => ∃ a len cap, x = .slice a len cap ∧ len = rows.length ∧ len ≤ cap ∧ (rows = [] ∨ ∃ b off, a = some ⟨b, off, none⟩ ∧ RepRows m γ S rows b off)
  | .ag cs, x => ∃ xs : List Value, x = .agg xs.toArray ∧ RepVals m γ cs xs
  | .tu cs, x => ∃ xs : List Value, x = .tuple xs.toArray ∧ RepVals m γ cs xs
  | .pt o off, x => ∃ b C, γ o = some (some (b, C)) ∧ x = .pointer (some ⟨b, off, none⟩)
  | .pf cs, x => ∃ b off, x = .pointer (some ⟨b, off, none⟩) ∧ RepCells m γ cs b off
  | .sr o S lo len, x => (γ o = some none ∧ (∃ a, x = .slice a 0 0) ∧ lo = 0 ∧ len = 0) ∨ ∃ b C cap, γ o = some (some (b, C)) ∧ lo + len ≤ C ∧ len ≤ cap ∧ cap ≤ C - lo ∧ (x = .slice (some ⟨b, lo * S, none⟩) len cap ∨ (len = 0 ∧ lo ≠ 0 ∧ ∃ a, x = .slice a 0 cap))
  | .fn f fs cs, x => ∃ xs ys : List Value, x = .func f xs.toArray ys.toArray ∧ RepVals m γ fs xs ∧ RepVals m γ cs ys
  | .ifc t y, x => ∃ z, x = .iface t z ∧ Rep m γ y z
  | .mp o, x => ∃ b C, γ o = some (some (b, C)) ∧ x = .map (some b)
  | .yl o, x => ∃ b C, γ o = some (some (b, C)) ∧ x = .func (.yield b) #[] #[]
  | .cl S rows, x => ∃ a len, x = .slice a len len ∧ len = rows.length ∧ (rows = [] ∨ ∃ b off, a = some ⟨b, off, none⟩ ∧ RepRows m γ S rows b off)
def RepVals (m : Mem) (γ : Gam) : List AV → List Value → Prop
  | [], xs => xs = []
  | c :: cs, xs => ∃ x r, xs = x :: r ∧ Rep m γ c x ∧ RepVals m γ cs r
def RepCells (m : Mem) (γ : Gam) : List AV → Nat → Nat → Prop
  | [], _, _ => True
  | c :: cs, b, off => (∃ x, m ⟨b, off, none⟩ = some x ∧ Rep m γ c x) ∧ RepCells m γ cs b (off + 1)
def RepRows (m : Mem) (γ : Gam) (S : Nat) : List (List AV) → Nat → Nat → Prop
  | [], _, _ => True
  | r :: rs, b, off => r.length = S ∧ RepCells m γ r b off ∧ RepRows m γ S rs b (off + S)
end

mutual
/-- Names none of these objects. -/
def AV.free (ks : List Nat) : AV → Bool
  | .any => true
  | .v _ => true
  | .sl _ rows => freeRows ks rows
  | .ag cs => freeVals ks cs
  | .tu cs => freeVals ks cs
  | .pt o _ => !ks.contains o
  | .pf cs => freeVals ks cs
  | .sr o _ _ _ => !ks.contains o
  | .fn _ fs cs => freeVals ks fs && freeVals ks cs
  | .ifc _ y => y.free ks
  | .mp o => !ks.contains o
  | .yl o => !ks.contains o
  | .cl _ rows => freeRows ks rows
def freeVals (ks : List Nat) : List AV → Bool
  | [] => true
  | c :: cs => c.free ks && freeVals ks cs
def freeRows (ks : List Nat) : List (List AV) → Bool
  | [] => true
  | r :: rs => freeVals ks r && freeRows ks rs
end

mutual
theorem AV.free_nil : ∀ av : AV, av.free [] = true
  | .any => by simp [AV.free]
  | .v _ => by simp [AV.free]
  | .sl _ rows => by simp [AV.free, freeRows_nil rows]
  | .ag cs => by simp [AV.free, freeVals_nil cs]
  | .tu cs => by simp [AV.free, freeVals_nil cs]
  | .pt o _ => by simp [AV.free]
  | .pf cs => by simp [AV.free, freeVals_nil cs]
  | .sr o _ _ _ => by simp [AV.free]
  | .fn _ fs cs => by simp [AV.free, freeVals_nil fs, freeVals_nil cs]
  | .ifc _ y => by simp [AV.free, AV.free_nil y]
  | .mp o => by simp [AV.free]
  | .yl o => by simp [AV.free]
  | .cl _ rows => by simp [AV.free, freeRows_nil rows]
theorem freeVals_nil : ∀ cs : List AV, freeVals [] cs = true
  | [] => by simp [freeVals]
  | c :: cs => by simp [freeVals, AV.free_nil c, freeVals_nil cs]
theorem freeRows_nil : ∀ rows : List (List AV), freeRows [] rows = true
  | [] => by simp [freeRows]
  | r :: rs => by simp [freeRows, freeVals_nil r, freeRows_nil rs]
end

/-- m' knows all that m knows, γ' all that γ knows but of 'ks'. -/
structure Le (m : Mem) (γ : Gam) (ks : List Nat) (m' : Mem) (γ' : Gam) : Prop where
  mem : ∀ a x, m a = some x → m' a = some x
  gam : ∀ o g, γ o = some g → ks.contains o = false → γ' o = some g

section
variable {m m' : Mem} {γ γ' : Gam} {ks : List Nat}
mutual
theorem rep_le (h : Le m γ ks m' γ') : ∀ (av : AV) (x : Value), av.free ks = true → Rep m γ av x → Rep m' γ' av x
  | .any, _, _, _ => by simp [Rep]
  | .v _, _, _, hr => by simpa [Rep] using hr
  | .sl S rows, _, hf, hr => by
    simp only [AV.free] at hf
    simp only [Rep] at hr ⊢
    obtain ⟨a, len, cap, h1, h2, h3, h4⟩ := hr
    refine ⟨a, len, cap, h1, h2, h3, h4.imp id ?_⟩
    rintro ⟨b, off, h5, h6⟩
    exact ⟨b, off, h5, repRows_le h S rows b off hf h6⟩
  | .ag cs, _, hf, hr => by
    simp only [AV.free] at hf
    simp only [Rep] at hr ⊢
    obtain ⟨xs, h1, h2⟩ := hr
    exact ⟨xs, h1, repVals_le h cs xs hf h2⟩
  | .tu cs, _, hf, hr => by
    simp only [AV.free] at hf
    simp only [Rep] at hr ⊢
    obtain ⟨xs, h1, h2⟩ := hr
    exact ⟨xs, h1, repVals_le h cs xs hf h2⟩
  | .pt o off, _, hf, hr => by
    simp only [AV.free, Bool.not_eq_true'] at hf
    simp only [Rep] at hr ⊢
    obtain ⟨b, C, h1, h2⟩ := hr
    exact ⟨b, C, h.gam o _ h1 hf, h2⟩
  | .pf cs, _, hf, hr => by
    simp only [AV.free] at hf
    simp only [Rep] at hr ⊢
    obtain ⟨b, off, h1, h2⟩ := hr
    exact ⟨b, off, h1, repCells_le h cs b off hf h2⟩
  | .sr o S lo len, _, hf, hr => by
    simp only [AV.free, Bool.not_eq_true'] at hf
    simp only [Rep] at hr ⊢
    rcases hr with ⟨h1, h2⟩ | ⟨b, C, cap, h1, h2⟩
    · exact .inl ⟨h.gam o _ h1 hf, h2⟩
    · exact .inr ⟨b, C, cap, h.gam o _ h1 hf, h2⟩
  | .fn f fs cs, _, hf, hr => by
    simp only [AV.free, Bool.and_eq_true] at hf
    simp only [Rep] at hr ⊢
    obtain ⟨xs, ys, h1, h2, h3⟩ := hr
    exact ⟨xs, ys, h1, repVals_le h fs xs hf.1 h2, repVals_le h cs ys hf.2 h3⟩
  | .ifc t y, _, hf, hr => by
    simp only [AV.free] at hf
    simp only [Rep] at hr ⊢
    obtain ⟨z, h1, h2⟩ := hr
    exact ⟨z, h1, rep_le h y z hf h2⟩
  | .mp o, _, hf, hr => by
    simp only [AV.free, Bool.not_eq_true'] at hf
    simp only [Rep] at hr ⊢
    obtain ⟨b, C, h1, h2⟩ := hr
    exact ⟨b, C, h.gam o _ h1 hf, h2⟩
  | .yl o, _, hf, hr => by
    simp only [AV.free, Bool.not_eq_true'] at hf
    simp only [Rep] at hr ⊢
    obtain ⟨b, C, h1, h2⟩ := hr
    exact ⟨b, C, h.gam o _ h1 hf, h2⟩
  | .cl S rows, _, hf, hr => by
    simp only [AV.free] at hf
    simp only [Rep] at hr ⊢
    obtain ⟨a, len, h1, h2, h4⟩ := hr
    refine ⟨a, len, h1, h2, h4.imp id ?_⟩
    rintro ⟨b, off, h5, h6⟩
    exact ⟨b, off, h5, repRows_le h S rows b off hf h6⟩
theorem repVals_le (h : Le m γ ks m' γ') : ∀ (cs : List AV) (xs : List Value), freeVals ks cs = true → RepVals m γ cs xs → RepVals m' γ' cs xs
  | [], _, _, hr => by simpa [RepVals] using hr
  | c :: cs, _, hf, hr => by
    simp only [freeVals, Bool.and_eq_true] at hf
    simp only [RepVals] at hr ⊢
    obtain ⟨x, r, h1, h2, h3⟩ := hr
    exact ⟨x, r, h1, rep_le h c x hf.1 h2, repVals_le h cs r hf.2 h3⟩
theorem repCells_le (h : Le m γ ks m' γ') : ∀ (cs : List AV) (b off : Nat), freeVals ks cs = true → RepCells m γ cs b off → RepCells m' γ' cs b off
  | [], _, _, _, _ => by simp [RepCells]
  | c :: cs, b, off, hf, hr => by
    simp only [freeVals, Bool.and_eq_true] at hf
    simp only [RepCells] at hr ⊢
    obtain ⟨⟨x, h1, h2⟩, h3⟩ := hr
    exact ⟨⟨x, h.mem _ _ h1, rep_le h c x hf.1 h2⟩, repCells_le h cs b (off + 1) hf.2 h3⟩
theorem repRows_le (h : Le m γ ks m' γ') (S : Nat) : ∀ (rows : List (List AV)) (b off : Nat), freeRows ks rows = true → RepRows m γ S rows b off → RepRows m' γ' S rows b off
  | [], _, _, _, _ => by simp [RepRows]
  | r :: rs, b, off, hf, hr => by
    simp only [freeRows, Bool.and_eq_true] at hf
    simp only [RepRows] at hr ⊢
    obtain ⟨h1, h2, h3⟩ := hr
    exact ⟨h1, repCells_le h r b off hf.1 h2, repRows_le h S rs b (off + S) hf.2 h3⟩
end
end

section
variable {m : Mem} {γ : Gam}
theorem repVals_length : ∀ {cs : List AV} {xs : List Value}, RepVals m γ cs xs → xs.length = cs.length
  | [], _, h => by simp only [RepVals] at h; simp [h]
  | c :: cs, _, h => by
    simp only [RepVals] at h
    obtain ⟨x, r, rfl, _, h3⟩ := h
    simp [repVals_length h3]
theorem repVals_get : ∀ {cs : List AV} {xs : List Value}, RepVals m γ cs xs → ∀ (i : Nat) (c : AV), cs[i]? = some c → ∃ x, xs[i]? = some x ∧ Rep m γ c x
  | [], _, _, i, c, hc => by simp at hc
  | d :: cs, _, h, i, c, hc => by
    simp only [RepVals] at h
    obtain ⟨x, r, rfl, h2, h3⟩ := h
    cases i with
    | zero => simp at hc; subst hc; exact ⟨x, rfl, h2⟩
    | succ i => simpa using repVals_get h3 i c (by simpa using hc)
theorem repVals_of_get : ∀ {cs : List AV} {xs : List Value}, xs.length = cs.length → (∀ (i : Nat) (c : AV) (x : Value), cs[i]? = some c → xs[i]? = some x → Rep m γ c x) → RepVals m γ cs xs
  | [], xs, hl, _ => by simp only [RepVals]; simpa using hl
  | c :: cs, [], hl, _ => by simp at hl
  | c :: cs, x :: xs, hl, h => by
    simp only [RepVals]
    exact ⟨x, xs, rfl, h 0 c x rfl rfl, repVals_of_get (by simpa using hl) (fun i d y hd hy => h (i + 1) d y (by simpa using hd) (by simpa using hy))⟩
theorem repVals_append {cs ds : List AV} {xs ys : List Value} (h : RepVals m γ cs xs) (k : RepVals m γ ds ys) : RepVals m γ (cs ++ ds) (xs ++ ys) := by
  induction cs generalizing xs with
  | nil => simp only [RepVals] at h; subst h; simpa using k
  | cons c cs ih =>
    simp only [RepVals] at h
    obtain ⟨x, r, rfl, h2, h3⟩ := h
    simp only [List.cons_append, RepVals]
    exact ⟨x, r ++ ys, rfl, h2, ih h3⟩
theorem repVals_set {cs : List AV} {xs : List Value} (h : RepVals m γ cs xs) (i : Nat) {c : AV} {x : Value} (hx : Rep m γ c x) : RepVals m γ (cs.set i c) (xs.set i x) := by
  refine repVals_of_get (by simp [repVals_length h]) fun j d y hd hy => ?_
  rw [List.getElem?_set] at hd hy
  by_cases hij : i = j
  · subst hij
    have hl := repVals_length h
    simp only [if_true] at hd hy
    split at hd
    · split at hy
      · cases hd; cases hy; exact hx
      · cases hy
    · cases hd
  · simp only [hij, if_false] at hd hy
    obtain ⟨z, hz, hr⟩ := repVals_get h j d hd
    rw [hz] at hy; cases hy; exact hr
theorem repVals_drop {cs : List AV} {xs : List Value} (h : RepVals m γ cs xs) (i : Nat) : RepVals m γ (cs.drop i) (xs.drop i) := by
  refine repVals_of_get (by simp [repVals_length h]) fun j d y hd hy => ?_
  rw [List.getElem?_drop] at hd hy
  obtain ⟨z, hz, hr⟩ := repVals_get h _ d hd
  rw [hz] at hy; cases hy; exact hr
theorem repVals_take {cs : List AV} {xs : List Value} (h : RepVals m γ cs xs) (i : Nat) : RepVals m γ (cs.take i) (xs.take i) := by
  refine repVals_of_get (by simp [repVals_length h]) fun j d y hd hy => ?_
  rw [List.getElem?_take] at hd hy
  split at hd
  · rename_i hji
    rw [if_pos hji] at hy
    obtain ⟨z, hz, hr⟩ := repVals_get h _ d hd
    rw [hz] at hy; cases hy; exact hr
  · cases hd
theorem repCells_get : ∀ {cs : List AV} {b off : Nat}, RepCells m γ cs b off → ∀ (i : Nat) (c : AV), cs[i]? = some c → ∃ x, m ⟨b, off + i, none⟩ = some x ∧ Rep m γ c x
  | [], _, _, _, i, c, hc => by simp at hc
  | d :: cs, b, off, h, i, c, hc => by
    simp only [RepCells] at h
    obtain ⟨⟨x, h1, h2⟩, h3⟩ := h
    cases i with
    | zero => simp at hc; subst hc; exact ⟨x, by simpa using h1, h2⟩
    | succ i =>
      obtain ⟨y, hy, hr⟩ := repCells_get h3 i c (by simpa using hc)
      exact ⟨y, by rw [← hy]; congr 2; omega, hr⟩
theorem repCells_drop : ∀ {cs : List AV} {b off : Nat}, RepCells m γ cs b off → ∀ (i : Nat), RepCells m γ (cs.drop i) b (off + i)
  | cs, b, off, h, 0 => by simpa using h
  | [], _, _, _, i + 1 => by simp [RepCells]
  | d :: cs, b, off, h, i + 1 => by
    simp only [RepCells] at h
    have := repCells_drop h.2 i
    rw [show off + (i + 1) = off + 1 + i from by omega]
    simpa using this
theorem repCells_of_get : ∀ {cs : List AV} {b off : Nat}, (∀ (i : Nat) (c : AV), cs[i]? = some c → ∃ x, m ⟨b, off + i, none⟩ = some x ∧ Rep m γ c x) → RepCells m γ cs b off
  | [], _, _, _ => by simp [RepCells]
  | c :: cs, b, off, h => by
    simp only [RepCells]
    refine ⟨by simpa using h 0 c rfl, repCells_of_get fun i d hd => ?_⟩
    obtain ⟨x, hx, hr⟩ := h (i + 1) d (by simpa using hd)
    exact ⟨x, by rw [← hx]; congr 2; omega, hr⟩
theorem repCells_vals : ∀ {cs : List AV} {b off : Nat}, RepCells m γ cs b off → ∃ xs : List Value, RepVals m γ cs xs ∧ ∀ (i : Nat) (x : Value), xs[i]? = some x → m ⟨b, off + i, none⟩ = some x
  | [], _, _, _ => ⟨[], by simp [RepVals], by simp⟩
  | c :: cs, b, off, h => by
    simp only [RepCells] at h
    obtain ⟨⟨x, h1, h2⟩, h3⟩ := h
    obtain ⟨xs, k1, k2⟩ := repCells_vals h3
    refine ⟨x :: xs, by simp only [RepVals]; exact ⟨x, xs, rfl, h2, k1⟩, fun i y hy => ?_⟩
    cases i with
    | zero => simp at hy; subst hy; simpa using h1
    | succ i => have := k2 i y (by simpa using hy); rw [← this]; congr 2; omega
theorem repRows_get {S : Nat} : ∀ {rows : List (List AV)} {b off : Nat}, RepRows m γ S rows b off → ∀ (i : Nat) (r : List AV), rows[i]? = some r → r.length = S ∧ RepCells m γ r b (off + i * S)
  | [], _, _, _, i, r, hr => by simp at hr
  | q :: rs, b, off, h, i, r, hr => by
    simp only [RepRows] at h
    obtain ⟨h1, h2, h3⟩ := h
    cases i with
    | zero => simp at hr; subst hr; exact ⟨h1, by simpa using h2⟩
    | succ i =>
      obtain ⟨k1, k2⟩ := repRows_get h3 i r (by simpa using hr)
      refine ⟨k1, ?_⟩
      rw [show off + (i + 1) * S = off + S + i * S from by rw [Nat.add_mul]; omega]
      exact k2
theorem repRows_of_get {S : Nat} : ∀ {rows : List (List AV)} {b off : Nat}, (∀ (i : Nat) (r : List AV), rows[i]? = some r → r.length = S ∧ RepCells m γ r b (off + i * S)) → RepRows m γ S rows b off
  | [], _, _, _ => by simp [RepRows]
  | q :: rs, b, off, h => by
    simp only [RepRows]
    have h0 := h 0 q rfl
    refine ⟨h0.1, by simpa using h0.2, repRows_of_get fun i r hr => ?_⟩
    obtain ⟨k1, k2⟩ := h (i + 1) r (by simpa using hr)
    refine ⟨k1, ?_⟩
    rw [show off + S + i * S = off + (i + 1) * S from by rw [Nat.add_mul]; omega]
    exact k2
theorem repRows_drop {S : Nat} {rows : List (List AV)} {b off : Nat} (h : RepRows m γ S rows b off) (i : Nat) : RepRows m γ S (rows.drop i) b (off + i * S) := by
  refine repRows_of_get fun j r hr => ?_
  rw [List.getElem?_drop] at hr
  obtain ⟨k1, k2⟩ := repRows_get h _ r hr
  refine ⟨k1, ?_⟩
  rw [show off + i * S + j * S = off + (i + j) * S from by rw [Nat.add_mul]; omega]
  exact k2
theorem repRows_take {S : Nat} {rows : List (List AV)} {b off : Nat} (h : RepRows m γ S rows b off) (i : Nat) : RepRows m γ S (rows.take i) b off := by
  refine repRows_of_get fun j r hr => ?_
  rw [List.getElem?_take] at hr
  split at hr
  · exact repRows_get h _ r hr
  · cases hr
theorem repRows_append {S : Nat} : ∀ {rows qs : List (List AV)} {b off : Nat}, RepRows m γ S rows b off → RepRows m γ S qs b (off + rows.length * S) → RepRows m γ S (rows ++ qs) b off
  | [], qs, b, off, _, k => by simpa using k
  | r :: rs, qs, b, off, h, k => by
    simp only [RepRows] at h
    obtain ⟨h1, h2, h3⟩ := h
    simp only [List.cons_append, RepRows]
    refine ⟨h1, h2, repRows_append h3 ?_⟩
    rw [show off + S + rs.length * S = off + (r :: rs).length * S from by simp only [List.length_cons]; rw [Nat.add_mul]; omega]
    exact k
end
end Go.Am
