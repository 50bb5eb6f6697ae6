/-
  An abstract machine, part B: live objects, the invariant, what one operation does, and a region's operations one behind the other or in any order that Go lets.
-/
import Derived.Test.YtifnhnkogcgnaaaDoorAmA
namespace Go.Am

/-- Live objects: a variable in memory (its cells); a growing row (elements' type, cells an element, the rows); a map (plain keys, values); 'dead': nothing is known of it any more. -/
inductive Ob where
  | dead
  | box (cells : List AV)
  | row (T : TypeId) (S : Nat) (rows : List (List AV))
  | mp (keys : List Value) (vals : List AV)
  deriving Inhabited

/-- a block of cells of which none is frozen -/
def CA (w : World) (b : Nat) (cs : Array Value) (T : TypeId) : Prop := ∃ fr : Nat × Nat, w.heap[b]? = some (.cells cs T fr) ∧ (fr = (0, 0) ∨ fr.1 = cs.size)
theorem CA.of_eq {w w' : World} {b : Nat} {cs : Array Value} {T : TypeId} (h : CA w b cs T) (e : w'.heap[b]? = w.heap[b]?) : CA w' b cs T := by
  obtain ⟨fr, h1, h2⟩ := h
  exact ⟨fr, e.trans h1, h2⟩
theorem CA.of_plain {w : World} {b : Nat} {cs : Array Value} {T : TypeId} (h : w.heap[b]? = some (.cells cs T (0, 0))) : CA w b cs T := ⟨_, h, .inl rfl⟩
theorem CA.cell {w : World} {b : Nat} {cs : Array Value} {T : TypeId} (h : CA w b cs T) (i : Nat) : w.cell? ⟨b, i, none⟩ = cs[i]? := by
  obtain ⟨fr, h1, _⟩ := h
  simp [World.cell?, h1]
def ObAt (m : Mem) (γ : Gam) (w : World) (o : Nat) : Ob → Prop
  | .dead => True
  | .box cells => ∃ b cs T, γ o = some (some (b, 0)) ∧ w.heap[b]? = some (.cells cs T (0, 0)) ∧ RepVals m γ cells cs.toList ∧ ∀ off, m ⟨b, off, none⟩ = none
  | .row T S rows => (γ o = some none ∧ rows = []) ∨
      ∃ b C cs, γ o = some (some (b, C)) ∧ CA w b cs T ∧ cs.size = C * S ∧ rows.length ≤ C ∧ C ≤ maxLen ∧ (∀ r ∈ rows, r.length = S) ∧
        RepVals m γ rows.flatten (cs.toList.take (rows.length * S)) ∧ ∀ off, m ⟨b, off, none⟩ = none
  | .mp keys vals => ∃ b es clock, γ o = some (some (b, 0)) ∧ w.heap[b]? = some (.map es clock) ∧ es.toList.map (·.key) = keys ∧ RepVals m γ vals (es.toList.map (·.val)) ∧ ∀ off, m ⟨b, off, none⟩ = none

def live (ob : List Ob) (o : Nat) : Prop := ∃ X, ob[o]? = some X ∧ X ≠ .dead

def InG (γ : Gam) (k : Nat) : Prop := ∃ o C, γ o = some (some (k, C))

structure Inv (m : Mem) (γ : Gam) (ob : List Ob) (w : World) : Prop where
  mem : ∀ a x, m a = some x → w.cell? a = some x
  obj : ∀ o X, ob[o]? = some X → ObAt m γ w o X
  sep : ∀ o o' b C C', live ob o → live ob o' → γ o = some (some (b, C)) → γ o' = some (some (b, C')) → o = o'
  dom : ∀ o b C, γ o = some (some (b, C)) → b < w.heap.size
  len : ∀ o, γ o ≠ none → o < ob.length

/-- From one state of affairs to a later one: what was known stays known; of what was there only the known objects' blocks may have turned. -/
structure Trans (m : Mem) (γ : Gam) (w : World) (m' : Mem) (γ' : Gam) (w' : World) : Prop where
  mem : ∀ a x, m a = some x → m' a = some x
  new : ∀ a x, m' a = some x → m a = some x ∨ w.heap.size ≤ a.block ∨ InG γ a.block
  gam : ∀ k, k < w.heap.size → InG γ' k → InG γ k
  os : w'.os = w.os
  tape : w'.tape = w.tape
  output : w'.output = w.output
  size : w.heap.size ≤ w'.heap.size
  blk : ∀ k, k < w.heap.size → ¬ InG γ k → w'.heap[k]? = w.heap[k]?

theorem Trans.refl (m : Mem) (γ : Gam) (w : World) : Trans m γ w m γ w :=
  ⟨fun _ _ h => h, fun _ _ h => .inl h, fun _ _ h => h, rfl, rfl, rfl, Nat.le_refl _, fun _ _ _ => rfl⟩
theorem Trans.trans {m m1 m2 : Mem} {γ γ1 γ2 : Gam} {w w1 w2 : World} (h : Trans m γ w m1 γ1 w1) (k : Trans m1 γ1 w1 m2 γ2 w2) : Trans m γ w m2 γ2 w2 where
  mem a x hx := k.mem a x (h.mem a x hx)
  new a x hx := by
    rcases k.new a x hx with h1 | h1 | h1
    · exact h.new a x h1
    · exact .inr (.inl (Nat.le_trans h.size h1))
    · by_cases hb : a.block < w.heap.size
      · exact .inr (.inr (h.gam _ hb h1))
      · exact .inr (.inl (by omega))
  gam b hb hi := h.gam b hb (k.gam b (Nat.lt_of_lt_of_le hb h.size) hi)
  os := k.os.trans h.os
  tape := k.tape.trans h.tape
  output := k.output.trans h.output
  size := Nat.le_trans h.size k.size
  blk b hb hn := (k.blk b (Nat.lt_of_lt_of_le hb h.size) (fun hi => hn (h.gam b hb hi))).trans (h.blk b hb hn)

abbrev Loc := List (Nat × AV)
def lk : Loc → Nat → Option AV
  | [], _ => none
  | (s, av) :: L, t => cond (Nat.beq s t) (some av) (lk L t)
/-- L' says all that L says ('any' says that the slot is there). -/
def Sub (L L' : Loc) : Prop := ∀ t av, lk L t = some av → lk L' t = some av ∨ (av = .any ∧ ∃ b, lk L' t = some b)
def killL (ks : List Nat) : Loc → Loc
  | [] => []
  | (t, av) :: L => (t, cond (av.free ks) av .any) :: killL ks L
def RepLoc (m : Mem) (γ : Gam) (a : Act) (L : Loc) : Prop := ∀ t av, lk L t = some av → t < a.tmps.size ∧ Rep m γ av (a.tmps.getD t undef)

theorem Sub.refl (L : Loc) : Sub L L := fun _ _ h => .inl h
theorem Sub.trans {L L1 L2 : Loc} (h : Sub L L1) (k : Sub L1 L2) : Sub L L2 := by
  intro t av e
  rcases h t av e with h1 | ⟨rfl, b, h1⟩
  · exact k t av h1
  · rcases k t b h1 with h2 | ⟨rfl, c, h2⟩
    · exact .inr ⟨rfl, b, h2⟩
    · exact .inr ⟨rfl, c, h2⟩
theorem Sub.nil (L : Loc) : Sub [] L := fun t av e => by simp [lk] at e
theorem lk_cons (s : Nat) (av : AV) (L : Loc) (t : Nat) : lk ((s, av) :: L) t = if s = t then some av else lk L t := by
  simp only [lk]
  by_cases h : s = t
  · subst h; simp
  · have : Nat.beq s t = false := by
      cases hb : Nat.beq s t with
      | false => rfl
      | true => exact absurd (Nat.eq_of_beq_eq_true hb) h
    simp [this, h]
theorem Sub.cons {s : Nat} {av : AV} {L L' : Loc} (h : lk L' s = some av) (k : Sub L L') : Sub ((s, av) :: L) L' := by
  intro t b e
  rw [lk_cons] at e
  split at e
  · rename_i hs; subst hs; cases e; exact .inl h
  · exact k t b e
theorem RepLoc.sub {m : Mem} {γ : Gam} {a : Act} {L L' : Loc} (h : RepLoc m γ a L') (k : Sub L L') : RepLoc m γ a L := fun t av e => by
  rcases k t av e with h1 | ⟨rfl, b, h1⟩
  · exact h t av h1
  · exact ⟨(h t b h1).1, by simp [Rep]⟩
theorem lk_killL (ks : List Nat) : ∀ (L : Loc) (t : Nat), lk (killL ks L) t = (lk L t).map fun av => cond (av.free ks) av .any
  | [], t => rfl
  | (s, av) :: L, t => by
    simp only [killL]
    rw [lk_cons, lk_cons]
    split
    · rfl
    · exact lk_killL ks L t
theorem RepLoc.le {m m' : Mem} {γ γ' : Gam} {ks : List Nat} {a : Act} {L : Loc} (h : RepLoc m γ a L) (hle : Le m γ ks m' γ') : RepLoc m' γ' a (killL ks L) := by
  intro t av e
  rw [lk_killL] at e
  cases hl : lk L t with
  | none => simp [hl] at e
  | some b =>
    rw [hl] at e
    simp only [Option.map_some, Option.some.injEq] at e
    obtain ⟨h1, h2⟩ := h t b hl
    refine ⟨h1, ?_⟩
    cases hf : b.free ks with
    | true => rw [hf] at e; simp only [cond_true] at e; subst e; exact rep_le hle b _ hf h2
    | false => rw [hf] at e; simp only [cond_false] at e; subst e; simp [Rep]
theorem RepLoc.le_nil {m m' : Mem} {γ γ' : Gam} {a : Act} {L : Loc} (h : RepLoc m γ a L) (hle : Le m γ [] m' γ') : RepLoc m' γ' a L :=
  fun t av e => ⟨(h t av e).1, rep_le hle av _ (AV.free_nil av) (h t av e).2⟩

/-- What an operation has to do with the objects: it hangs on slots alone; it reads them; it writes them; it writes this one alone; it reads this one alone; it leaves the first k as they are. -/
inductive Kd where
  | pure
  | read
  | write
  | st (o : Nat) (old new : Ob)
  | rd (o : Nat) (old : Ob)
  | from (k : Nat)
/-- What one operation did: the slots that it read, the value that it gave, the objects of which nothing is known any more, and its kind. -/
structure Rec where
  dst : Option Nat
  us : Loc
  r : AV
  ks : List Nat
  kind : Kd

def killA (ks : List Nat) (L : Loc) : Loc := match ks with
  | [] => L
  | k :: ks => killL (k :: ks) L
def updL (L : Loc) (dst : Option Nat) (r : AV) (ks : List Nat) : Loc :=
  match dst with
  | some d => (d, r) :: killA ks L
  | none => killA ks L
def upd (L : Loc) (rc : Rec) : Loc := updL L rc.dst rc.r rc.ks

def GStep (P : Program) (ops : Array Oper) (o : Oper) (rc : Rec) (ob ob' : List Ob) : Prop :=
  ∀ (m : Mem) (γ : Gam) (w : World) (a : Act) (K : Act → World → Prop) (Q : Exit → Act → World → Prop), Inv m γ ob w → RepLoc m γ a rc.us →
    (∀ m' γ' w' x, Trans m γ w m' γ' w' → Le m γ rc.ks m' γ' → Inv m' γ' ob' w' → Rep m' γ' rc.r x → K (a.put o.dst x) w') →
    if Region.wanted o (yielded ops a.tmps) then o.wp P a w K Q ∨ (o.asks P a w ∧ LetsOut Q) else K (a.put o.dst undef) w

def StepK (P : Program) (ops : Array Oper) (o : Oper) (rc : Rec) (ob ob' : List Ob) : Prop :=
  match rc.kind with
  | .pure => ob' = ob ∧ rc.ks = [] ∧ ∀ ob, GStep P ops o rc ob ob
  | .read => ob' = ob ∧ rc.ks = [] ∧ GStep P ops o rc ob ob
  | .write => GStep P ops o rc ob ob'
  | .st k old new => ob[k]? = some old ∧ ob' = ob.set k new ∧ ∀ ob, ob[k]? = some old → GStep P ops o rc ob (ob.set k new)
  | .rd k old => ob[k]? = some old ∧ ob' = ob ∧ rc.ks = [] ∧ ∀ ob, ob[k]? = some old → GStep P ops o rc ob ob
  | .from k => (∀ i, i < k → ob'[i]? = ob[i]?) ∧ GStep P ops o rc ob ob'

theorem StepK.step {P : Program} {ops : Array Oper} {o : Oper} {rc : Rec} {ob ob' : List Ob} (h : StepK P ops o rc ob ob') : GStep P ops o rc ob ob' := by
  unfold StepK at h
  split at h
  · obtain ⟨rfl, _, h⟩ := h; exact h _
  · obtain ⟨rfl, _, h⟩ := h; exact h
  · exact h
  · obtain ⟨h1, rfl, h2⟩ := h; exact h2 _ h1
  · obtain ⟨h1, rfl, _, h2⟩ := h; exact h2 _ h1
  · exact h.2

inductive Ev (P : Program) (n : Nat) (ops : Array Oper) : List Oper → List Rec → Loc → List Ob → Loc → List Ob → Prop
  | nil (L : Loc) (ob : List Ob) : Ev P n ops [] [] L ob L ob
  | cons {o : Oper} {rest : List Oper} {rc : Rec} {recs : List Rec} {L L2 : Loc} {ob ob' ob2 : List Ob} (hus : Sub rc.us L) (hdst : rc.dst = o.dst) (hn : ∀ d, o.dst = some d → d < n)
      (hst : StepK P ops o rc ob ob') (h : Ev P n ops rest recs (upd L rc) ob' L2 ob2) : Ev P n ops (o :: rest) (rc :: recs) L ob L2 ob2

theorem size_put (a : Act) (d : Option Nat) (x : Value) : (a.put d x).tmps.size = a.tmps.size := by
  cases d <;> simp [Act.put]
theorem defers_put (a : Act) (d : Option Nat) (x : Value) : (a.put d x).defers = a.defers := by
  cases d <;> simp [Act.put]

theorem repLoc_put {m m' : Mem} {γ γ' : Gam} {a : Act} {L : Loc} {rc : Rec} {d : Option Nat} {x : Value} (h : RepLoc m γ a L) (hle : Le m γ rc.ks m' γ') (hd : rc.dst = d)
    (hn : ∀ e, d = some e → e < a.tmps.size) (hx : Rep m' γ' rc.r x) : RepLoc m' γ' (a.put d x) (upd L rc) := by
  have hL : RepLoc m' γ' a (killA rc.ks L) := by
    cases hks : rc.ks with
    | nil => rw [hks] at hle; exact h.le_nil hle
    | cons k ks => rw [hks] at hle; exact h.le hle
  subst hd
  unfold upd updL
  cases hdd : rc.dst with
  | none => simpa [Act.put] using hL
  | some d =>
    intro t av e
    simp only at e
    rw [lk_cons] at e
    have hlt := hn d hdd
    split at e
    · rename_i hs; subst hs; cases e
      refine ⟨by simpa [Act.put] using hlt, ?_⟩
      simp only [Act.put, Array.getD_eq_getD_getElem?]
      rw [Array.getElem?_setIfInBounds_self_of_lt hlt]
      simpa using hx
    · rename_i hs
      obtain ⟨h1, h2⟩ := hL t av e
      refine ⟨by simpa [Act.put] using h1, ?_⟩
      simp only [Act.put, Array.getD_eq_getD_getElem?] at h2 ⊢
      rw [Array.getElem?_setIfInBounds_ne hs]
      exact h2

section
variable {P : Program} {n : Nat} {ops : Array Oper}
/-- In the order of the text. -/
theorem ev_sound {l : List Oper} {recs : List Rec} {L L2 : Loc} {ob ob2 : List Ob} (hev : Ev P n ops l recs L ob L2 ob2) :
    ∀ {m : Mem} {γ : Gam} {w : World} {a : Act} {Q : Exit → Act → World → Prop}, Inv m γ ob w → RepLoc m γ a L → a.tmps.size = n →
    (∀ m' γ' w' a', Trans m γ w m' γ' w' → Inv m' γ' ob2 w' → RepLoc m' γ' a' L2 → a'.tmps.size = n → a'.defers = a.defers → (∀ o g, (∀ rc ∈ recs, rc.ks.contains o = false) → γ o = some g → γ' o = some g) → Q .normal a' w') → wpList P ops Q l a w := by
  induction hev with
  | nil L ob => intro m γ w a Q hi hl hs hq; exact hq m γ w a (Trans.refl _ _ _) hi hl hs rfl (fun _ _ _ h => h)
  | cons hus hdst hn hst h ih =>
    intro m γ w a Q hi hl hs hq
    unfold wpList
    refine hst.step m γ w a _ Q hi (hl.sub hus) fun m' γ' w' x ht hle hi' hx => ?_
    exact ih hi' (repLoc_put hl hle hdst (fun e he => by rw [hs]; exact hn e he) hx) (by rw [size_put]; exact hs)
      fun m2 γ2 w2 a2 ht2 hi2 hl2 hs2 hd2 hk2 => hq m2 γ2 w2 a2 (ht.trans ht2) hi2 hl2 hs2 (hd2.trans (defers_put _ _ _))
        fun o g hks hg => hk2 o g (fun rc hrc => hks rc (List.mem_cons_of_mem _ hrc)) (hle.gam o g hg (hks _ (by simp)))
end
end Go.Am
