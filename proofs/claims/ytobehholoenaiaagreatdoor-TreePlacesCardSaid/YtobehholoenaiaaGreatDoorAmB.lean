/-
  An abstract machine, part B: live objects, the invariant, what one operation does, and a region's operations one behind the other or in any order that Go lets.
-/
import Derived.Test.YtobehholoenaiaaGreatDoorAmA
namespace Go.Am

/-- the text of a range over a function: how many slots, its left sides, the assignment to them, the body -/
structure YCode where
  n : Nat
  ps : Array Tmp
  assign : Code
  body : Code
  /-- the jump that a round has left -/
  jump : Option Code
/-- has no round left a jump? -/
def YCode.free (k : YCode) : Bool := match k.jump with
  | none => true
  | some _ => false
/-- a jump that a round may leave -/
def YCode.left (k : YCode) : Option Code → YCode
  | none => k
  | some c => ⟨k.n, k.ps, k.assign, k.body, some c⟩
def YCode.state (k : YCode) (busy : Bool) : LoopState := match k.jump with
  | none => cond busy .busy .ready
  | some _ => .done
/-- Live objects: a variable in memory (its type, its cells); a growing row (elements' type, cells an element, the rows); a map (plain keys, values); a range over a function that is under way (within a round or not), with what its slots hold; 'dead': nothing is known of it any more. -/
inductive Ob where
  | dead
  | box (T : TypeId) (cells : List AV)
  | row (T : TypeId) (S : Nat) (rows : List (List AV))
  | mp (keys : List Value) (vals : List AV)
  | lp (busy : Bool) (k : YCode) (ts : List Nat) (cs : List AV)
  deriving Inhabited

/-- a block of cells of which none is frozen -/
def CA (w : World) (b : Nat) (cs : Array Value) (T : TypeId) : Prop := ∃ fr : Nat × Nat, w.heap[b]? = some (.cells cs T fr) ∧ (fr = (0, 0) ∨ fr.1 = cs.size)
theorem CA.of_eq {w w' : World} {b : Nat} {cs : Array Value} {T : TypeId} (h : CA w b cs T) (e : w'.heap[b]? = w.heap[b]?) : CA w' b cs T := by
  obtain ⟨fr, h1, h2⟩ := h
  exact ⟨fr, e.trans h1, h2⟩
theorem CA.of_plain {w : World} {b : Nat} {cs : Array Value} {T : TypeId} (h : w.heap[b]? = some (.cells cs T (0, 0))) : CA w b cs T := ⟨_, h, .inl rfl⟩
theorem CA.cell {w : World} {b : Nat} {cs : Array Value} {T : TypeId} (h : CA w b cs T) (i : Nat) : w.cell? ⟨b, i, none⟩ = cs[i]? := by
  obtain ⟨fr, h1, _⟩ := h
  simp [World.cell?, h1]
def ObAt (m : Mem) (γ : Gam) (w : World) (o : Nat) : Ob → Prop
  | .dead => True
  | .box T cells => ∃ b cs, γ o = some (some (b, 0)) ∧ w.heap[b]? = some (.cells cs T (0, 0)) ∧ RepVals m γ cells cs.toList ∧ ∀ off, m ⟨b, off, none⟩ = none
  | .row T S rows => (γ o = some none ∧ rows = []) ∨
      ∃ b C cs, γ o = some (some (b, C)) ∧ CA w b cs T ∧ cs.size = C * S ∧ rows.length ≤ C ∧ C ≤ maxLen ∧ (∀ r ∈ rows, r.length = S) ∧
        RepVals m γ rows.flatten (cs.toList.take (rows.length * S)) ∧ ∀ off, m ⟨b, off, none⟩ = none
  | .mp keys vals => ∃ b es clock, γ o = some (some (b, 0)) ∧ w.heap[b]? = some (.map es clock) ∧ es.toList.map (·.key) = keys ∧ RepVals m γ vals (es.toList.map (·.val)) ∧ ∀ off, m ⟨b, off, none⟩ = none
  | .lp busy k ts cs => ∃ b r xs, γ o = some (some (b, 0)) ∧ w.heap[b]? = some (.loop r) ∧ (r.state = k.state busy ∧ r.pending = k.jump ∧ r.params = k.ps ∧ r.assign = k.assign ∧ r.body = k.body ∧ r.tmps.size = k.n) ∧
      RepVals m γ cs xs ∧ (∀ (i t : Nat) (x : Value), ts[i]? = some t → xs[i]? = some x → t < k.n ∧ r.tmps.getD t undef = x) ∧ ∀ off, m ⟨b, off, none⟩ = none

def live (ob : List Ob) (o : Nat) : Prop := ∃ X, ob[o]? = some X ∧ X ≠ .dead

def InG (γ : Gam) (k : Nat) : Prop := ∃ o C, γ o = some (some (k, C))

structure Inv (m : Mem) (γ : Gam) (ob : List Ob) (w : World) : Prop where
  mem : ∀ a x, m a = some x → w.cell? a = some x
  obj : ∀ o X, ob[o]? = some X → ObAt m γ w o X
  sep : ∀ o o' b C C', live ob o → live ob o' → γ o = some (some (b, C)) → γ o' = some (some (b, C')) → o = o'
  dom : ∀ o b C, γ o = some (some (b, C)) → b < w.heap.size
  len : ∀ o, γ o ≠ none → o < ob.length

/-- From one state of affairs to a later one: what was known stays known; of what was there only the known objects' blocks may have turned. -/
structure Trans (m : Mem) (γ : Gam) (w : World) (m' : Mem) (γ' : Gam) (w' : World) : Prop where
  mem : ∀ a x, m a = some x → m' a = some x
  new : ∀ a x, m' a = some x → m a = some x ∨ w.heap.size ≤ a.block ∨ InG γ a.block
  gam : ∀ k, k < w.heap.size → InG γ' k → InG γ k
  os : w'.os = w.os
  tape : w'.tape = w.tape
  output : w'.output = w.output
  size : w.heap.size ≤ w'.heap.size
  blk : ∀ k, k < w.heap.size → ¬ InG γ k → w'.heap[k]? = w.heap[k]?

theorem Trans.refl (m : Mem) (γ : Gam) (w : World) : Trans m γ w m γ w :=
  ⟨fun _ _ h => h, fun _ _ h => .inl h, fun _ _ h => h, rfl, rfl, rfl, Nat.le_refl _, fun _ _ _ => rfl⟩
theorem Trans.trans {m m1 m2 : Mem} {γ γ1 γ2 : Gam} {w w1 w2 : World} (h : Trans m γ w m1 γ1 w1) (k : Trans m1 γ1 w1 m2 γ2 w2) : Trans m γ w m2 γ2 w2 where
  mem a x hx := k.mem a x (h.mem a x hx)
  new a x hx := by
    rcases k.new a x hx with h1 | h1 | h1
    · exact h.new a x h1
    · exact .inr (.inl (Nat.le_trans h.size h1))
    · by_cases hb : a.block < w.heap.size
      · exact .inr (.inr (h.gam _ hb h1))
      · exact .inr (.inl (by omega))
  gam b hb hi := h.gam b hb (k.gam b (Nat.lt_of_lt_of_le hb h.size) hi)
  os := k.os.trans h.os
  tape := k.tape.trans h.tape
  output := k.output.trans h.output
  size := Nat.le_trans h.size k.size
  blk b hb hn := (k.blk b (Nat.lt_of_lt_of_le hb h.size) (fun hi => hn (h.gam b hb hi))).trans (h.blk b hb hn)

abbrev Loc := List (Nat × AV)
def lk : Loc → Nat → Option AV
  | [], _ => none
  | (s, av) :: L, t => cond (Nat.beq s t) (some av) (lk L t)
/-- L' says all that L says ('any' says that the slot is there). -/
def Sub (L L' : Loc) : Prop := ∀ t av, lk L t = some av → lk L' t = some av ∨ (av = .any ∧ ∃ b, lk L' t = some b)
def killL (ks : List Nat) : Loc → Loc
  | [] => []
  | (t, av) :: L => (t, cond (av.free ks) av .any) :: killL ks L
def RepLoc (m : Mem) (γ : Gam) (a : Act) (L : Loc) : Prop := ∀ t av, lk L t = some av → t < a.tmps.size ∧ Rep m γ av (a.tmps.getD t undef)

theorem Sub.refl (L : Loc) : Sub L L := fun _ _ h => .inl h
theorem Sub.trans {L L1 L2 : Loc} (h : Sub L L1) (k : Sub L1 L2) : Sub L L2 := by
  intro t av e
  rcases h t av e with h1 | ⟨rfl, b, h1⟩
  · exact k t av h1
  · rcases k t b h1 with h2 | ⟨rfl, c, h2⟩
    · exact .inr ⟨rfl, b, h2⟩
    · exact .inr ⟨rfl, c, h2⟩
theorem Sub.nil (L : Loc) : Sub [] L := fun t av e => by simp [lk] at e
theorem lk_cons (s : Nat) (av : AV) (L : Loc) (t : Nat) : lk ((s, av) :: L) t = if s = t then some av else lk L t := by
  simp only [lk]
  by_cases h : s = t
  · subst h; simp
  · have : Nat.beq s t = false := by
      cases hb : Nat.beq s t with
      | false => rfl
      | true => exact absurd (Nat.eq_of_beq_eq_true hb) h
    simp [this, h]
theorem Sub.cons {s : Nat} {av : AV} {L L' : Loc} (h : lk L' s = some av) (k : Sub L L') : Sub ((s, av) :: L) L' := by
  intro t b e
  rw [lk_cons] at e
  split at e
  · rename_i hs; subst hs; cases e; exact .inl h
  · exact k t b e
theorem RepLoc.sub {m : Mem} {γ : Gam} {a : Act} {L L' : Loc} (h : RepLoc m γ a L') (k : Sub L L') : RepLoc m γ a L := fun t av e => by
  rcases k t av e with h1 | ⟨rfl, b, h1⟩
  · exact h t av h1
  · exact ⟨(h t b h1).1, by simp [Rep]⟩
theorem lk_killL (ks : List Nat) : ∀ (L : Loc) (t : Nat), lk (killL ks L) t = (lk L t).map fun av => cond (av.free ks) av .any
  | [], t => rfl
  | (s, av) :: L, t => by
    simp only [killL]
    rw [lk_cons, lk_cons]
    split
    · rfl
    · exact lk_killL ks L t
theorem RepLoc.le {m m' : Mem} {γ γ' : Gam} {ks : List Nat} {a : Act} {L : Loc} (h : RepLoc m γ a L) (hle : Le m γ ks m' γ') : RepLoc m' γ' a (killL ks L) := by
  intro t av e
  rw [lk_killL] at e
  cases hl : lk L t with
  | none => simp [hl] at e
  | some b =>
    rw [hl] at e
    simp only [Option.map_some, Option.some.injEq] at e
    obtain ⟨h1, h2⟩ := h t b hl
    refine ⟨h1, ?_⟩
    cases hf : b.free ks with
    | true => rw [hf] at e; simp only [cond_true] at e; subst e; exact rep_le hle b _ hf h2
    | false => rw [hf] at e; simp only [cond_false] at e; subst e; simp [Rep]
theorem RepLoc.le_nil {m m' : Mem} {γ γ' : Gam} {a : Act} {L : Loc} (h : RepLoc m γ a L) (hle : Le m γ [] m' γ') : RepLoc m' γ' a L :=
  fun t av e => ⟨(h t av e).1, rep_le hle av _ (AV.free_nil av) (h t av e).2⟩

/-- a bit -/
def tb (t i : Nat) : Bool := Nat.beq (Nat.land (Nat.shiftRight t i) 1) 1
def bit (k : Nat) : Nat := Nat.shiftLeft 1 k
theorem beq_dec (a b : Nat) : Nat.beq a b = decide (a = b) := by
  cases h : Nat.beq a b with
  | true => simp [Nat.eq_of_beq_eq_true h]
  | false => simp [Nat.ne_of_beq_eq_false h]
theorem tb_eq (t i : Nat) : tb t i = t.testBit i := by
  have h1 : Nat.land (Nat.shiftRight t i) 1 = t / 2 ^ i % 2 := by
    show (t >>> i) &&& 1 = _
    rw [Nat.and_one_is_mod, Nat.shiftRight_eq_div_pow]
  unfold tb
  rw [h1, Nat.testBit_eq_decide_div_mod_eq, beq_dec]
theorem tb_bit (k i : Nat) : tb (bit k) i = decide (k = i) := by
  rw [tb_eq]
  show (1 <<< k).testBit i = _
  rw [Nat.one_shiftLeft, Nat.testBit_two_pow]
theorem tb_lor (a b i : Nat) : tb (Nat.lor a b) i = (tb a i || tb b i) := by
  rw [tb_eq, tb_eq, tb_eq]
  exact Nat.testBit_or a b i
theorem un_bit {k i : Nat} (h : tb (bit k) i = false) : k ≠ i := by
  rw [tb_bit] at h
  simpa using h
/-- What an operation has to do with the objects: it hangs on slots alone; it reads them; it writes them; it writes this one alone; it reads this one alone; it leaves the first k as they are; it leaves all as they are but for these, by bits ('yl': it is a yield). -/
inductive Kd where
  | pure
  | read
  | write
  | st (o : Nat) (old new : Ob)
  | rd (o : Nat) (old : Ob)
  | from (k : Nat)
  | chg (t : Nat)
  | yl (t : Nat)
def Kd.isYl : Kd → Bool
  | .yl _ => true
  | _ => false
/-- What one operation did: the slots that it read, the value that it gave, the objects of which nothing is known any more, and its kind. -/
structure Rec where
  dst : Option Nat
  us : Loc
  r : AV
  ks : List Nat
  kind : Kd

def killA (ks : List Nat) (L : Loc) : Loc := match ks with
  | [] => L
  | k :: ks => killL (k :: ks) L
def updL (L : Loc) (dst : Option Nat) (r : AV) (ks : List Nat) : Loc :=
  match dst with
  | some d => (d, r) :: killA ks L
  | none => killA ks L
def upd (L : Loc) (rc : Rec) : Loc := updL L rc.dst rc.r rc.ks

/-! ### Frames of functions, frames of rounds -/
def wideR (ro : Option Nat) : Fence := { fn := fun _ => True, depth := none, alive := false, round := ro }
theorem wideR_none : wideR none = Fence.wide := rfl
theorem fencedR (P : Program) (ro : Option Nat) (m : Machine) : m.fenced P (wideR ro) := by
  intro g _
  refine ⟨fun h => ?_, Or.inl trivial, fun _ _ => trivial, fun _ h => ?_⟩
  · cases h
  · cases h
theorem roomR (ro : Option Nat) (n : Nat) : (wideR ro).room n := fun _ h => by cases h
theorem fencedR_eq (P : Program) (ro : Option Nat) : Machine.fenced P (wideR ro) = Machine.fenced P Fence.wide := by
  funext m
  exact propext ⟨fun _ => fencedR P none m, fun _ => fencedR P ro m⟩
theorem callsInR {ro : Option Nat} {n : Nat} {P : Program} {f : FuncId} {args : Array Value} {w : World} {R : Ending → World → Prop} : CallsIn (wideR ro) n P f args w R ↔ Calls P f args w R := by
  rw [← callsIn_wide (n := n)]
  unfold CallsIn
  rw [fencedR_eq]
  exact ⟨fun h => ⟨trivial, fun cs _ => h.2 cs (roomR _ _)⟩, fun h => ⟨trivial, fun cs _ => h.2 cs (roomR none _)⟩⟩
theorem rowsInR {ro : Option Nat} {n : Nat} {P : Program} {row : String} {args : Array Value} {w : World} {R : Value → World → Prop} : Rows P row args w R → RowsIn (wideR ro) n P row args w R := by
  intro h c cs _
  rw [fencedR_eq]
  obtain ⟨v, w', r, s⟩ := h c cs
  exact ⟨v, w', r, stepsIn_wide.2 s⟩
theorem roundInR {ro ro' : Option Nat} {n : Nat} {P : Program} {l : Nat} {f : FuncId} {tmps : Array Value} {assign body : Code} {w : World} {R : Ending → World → Prop} (h : RoundIn (wideR ro) n P l f tmps assign body w R) : RoundIn (wideR ro') n P l f tmps assign body w R := by
  unfold RoundIn at h ⊢
  rw [fencedR_eq] at h ⊢
  exact ⟨trivial, fun c cs _ => h.2 c cs (roomR _ _)⟩
/-- no 'defer' statement -/
def Oper.still (o : Oper) : Bool := match o.op with
  | .defer _ => false
  | _ => true
theorem wpIn_of_wp {ro : Option Nat} {n : Nat} {P : Program} {o : Oper} {a : Act} {w : World} {K : Act → World → Prop} {Q : Exit → Act → World → Prop} (hd : ro = none ∨ Oper.still o = true) (h : o.wp P a w K Q) : o.wpIn (wideR ro) n P a w K Q := by
  refine ⟨fun _ _ => trivial, ?_⟩
  have hs : Oper.semAt (wideR ro).round a.eval o = execOp a.eval o := by
    rcases hd with rfl | hd
    · rfl
    · refine Oper.semAt_eq _ _ _ fun c hc => ?_
      rw [Oper.still, hc] at hd
      cases hd
  rw [hs]
  unfold Oper.wp at h
  generalize (execOp a.eval o).run P w = r at h
  cases r with
  | ok x w' =>
    cases x <;> simp only [Oper.upon] at h <;> simp only [Oper.uponIn] <;> first
      | exact h
      | exact ⟨fun e => (by cases e), callsInR.2 h⟩
      | exact ⟨fun e => (by cases e), rowsInR h⟩
      | exact h.elim
  | halt x w' => cases x <;> simp only [Oper.upon] at h <;> simp only [Oper.uponIn] <;> first | exact h | exact h.elim
def GStep (P : Program) (ops : Array Oper) (o : Oper) (rc : Rec) (ob ob' : List Ob) : Prop :=
  ∀ (m : Mem) (γ : Gam) (w : World) (a : Act) (K : Act → World → Prop) (Q : Exit → Act → World → Prop), Inv m γ ob w → RepLoc m γ a rc.us →
    (∀ m' γ' w' x, Trans m γ w m' γ' w' → Le m γ rc.ks m' γ' → Inv m' γ' ob' w' → Rep m' γ' rc.r x → K (a.put o.dst x) w') →
    if Region.wanted o (yielded ops a.tmps) then o.wp P a w K Q ∨ (rc.kind.isYl = true ∧ ∀ ro, o.wpIn (wideR ro) 0 P a w K Q) else K (a.put o.dst undef) w

def StepK (P : Program) (ops : Array Oper) (o : Oper) (rc : Rec) (ob ob' : List Ob) : Prop :=
  match rc.kind with
  | .pure => ob' = ob ∧ rc.ks = [] ∧ ∀ ob, GStep P ops o rc ob ob
  | .read => ob' = ob ∧ rc.ks = [] ∧ GStep P ops o rc ob ob
  | .write => GStep P ops o rc ob ob'
  | .st k old new => ob[k]? = some old ∧ ob' = ob.set k new ∧ ∀ ob, ob[k]? = some old → GStep P ops o rc ob (ob.set k new)
  | .rd k old => ob[k]? = some old ∧ ob' = ob ∧ rc.ks = [] ∧ ∀ ob, ob[k]? = some old → GStep P ops o rc ob ob
  | .from k => (∀ i, i < k → ob'[i]? = ob[i]?) ∧ GStep P ops o rc ob ob'
  | .chg t => (∀ i, tb t i = false → ob'[i]? = ob[i]?) ∧ GStep P ops o rc ob ob'
  | .yl t => (∀ i, tb t i = false → ob'[i]? = ob[i]?) ∧ GStep P ops o rc ob ob'

theorem StepK.step {P : Program} {ops : Array Oper} {o : Oper} {rc : Rec} {ob ob' : List Ob} (h : StepK P ops o rc ob ob') : GStep P ops o rc ob ob' := by
  unfold StepK at h
  split at h
  · obtain ⟨rfl, _, h⟩ := h; exact h _
  · obtain ⟨rfl, _, h⟩ := h; exact h
  · exact h
  · obtain ⟨h1, rfl, h2⟩ := h; exact h2 _ h1
  · obtain ⟨h1, rfl, _, h2⟩ := h; exact h2 _ h1
  · exact h.2
  · exact h.2
  · exact h.2

inductive Ev (P : Program) (n : Nat) (ops : Array Oper) : List Oper → List Rec → Loc → List Ob → Loc → List Ob → Prop
  | nil (L : Loc) (ob : List Ob) : Ev P n ops [] [] L ob L ob
  | cons {o : Oper} {rest : List Oper} {rc : Rec} {recs : List Rec} {L L2 : Loc} {ob ob' ob2 : List Ob} (hus : Sub rc.us L) (hdst : rc.dst = o.dst) (hn : ∀ d, o.dst = some d → d < n)
      (hst : StepK P ops o rc ob ob') (h : Ev P n ops rest recs (upd L rc) ob' L2 ob2) : Ev P n ops (o :: rest) (rc :: recs) L ob L2 ob2

theorem size_put (a : Act) (d : Option Nat) (x : Value) : (a.put d x).tmps.size = a.tmps.size := by
  cases d <;> simp [Act.put]
theorem defers_put (a : Act) (d : Option Nat) (x : Value) : (a.put d x).defers = a.defers := by
  cases d <;> simp [Act.put]

theorem repLoc_put {m m' : Mem} {γ γ' : Gam} {a : Act} {L : Loc} {rc : Rec} {d : Option Nat} {x : Value} (h : RepLoc m γ a L) (hle : Le m γ rc.ks m' γ') (hd : rc.dst = d)
    (hn : ∀ e, d = some e → e < a.tmps.size) (hx : Rep m' γ' rc.r x) : RepLoc m' γ' (a.put d x) (upd L rc) := by
  have hL : RepLoc m' γ' a (killA rc.ks L) := by
    cases hks : rc.ks with
    | nil => rw [hks] at hle; exact h.le_nil hle
    | cons k ks => rw [hks] at hle; exact h.le hle
  subst hd
  unfold upd updL
  cases hdd : rc.dst with
  | none => simpa [Act.put] using hL
  | some d =>
    intro t av e
    simp only at e
    rw [lk_cons] at e
    have hlt := hn d hdd
    split at e
    · rename_i hs; subst hs; cases e
      refine ⟨by simpa [Act.put] using hlt, ?_⟩
      simp only [Act.put, Array.getD_eq_getD_getElem?]
      rw [Array.getElem?_setIfInBounds_self_of_lt hlt]
      simpa using hx
    · rename_i hs
      obtain ⟨h1, h2⟩ := hL t av e
      refine ⟨by simpa [Act.put] using h1, ?_⟩
      simp only [Act.put, Array.getD_eq_getD_getElem?] at h2 ⊢
      rw [Array.getElem?_setIfInBounds_ne hs]
      exact h2

section
variable {P : Program} {n : Nat} {ops : Array Oper}
theorem gstep_in {ro : Option Nat} {kd : Kd} {o : Oper} {a : Act} {w : World} {K : Act → World → Prop} {Q : Exit → Act → World → Prop} (hd : ro = none ∨ Oper.still o = true)
    (h : if Region.wanted o (yielded ops a.tmps) then o.wp P a w K Q ∨ (kd.isYl = true ∧ ∀ ro, o.wpIn (wideR ro) 0 P a w K Q) else K (a.put o.dst undef) w) :
    if Region.wanted o (yielded ops a.tmps) then o.wpIn (wideR ro) 0 P a w K Q else (∀ f, o.about P w a.eval = some f → (wideR ro).fn f) ∧ K (a.put o.dst undef) w := by
  split
  · rename_i hw
    rw [if_pos hw] at h
    rcases h with h | h
    · exact wpIn_of_wp hd h
    · exact h.2 ro
  · rename_i hw
    rw [if_neg hw] at h
    exact ⟨fun _ _ => trivial, h⟩
/-- In the order of the text. -/
theorem ev_sound {l : List Oper} {recs : List Rec} {L L2 : Loc} {ob ob2 : List Ob} (hev : Ev P n ops l recs L ob L2 ob2) :
    ∀ {ro : Option Nat} {m : Mem} {γ : Gam} {w : World} {a : Act} {Q : Exit → Act → World → Prop}, (ro = none ∨ l.all Oper.still = true) → Inv m γ ob w → RepLoc m γ a L → a.tmps.size = n →
    (∀ m' γ' w' a', Trans m γ w m' γ' w' → Inv m' γ' ob2 w' → RepLoc m' γ' a' L2 → a'.tmps.size = n → a'.defers = a.defers → (∀ o g, (∀ rc ∈ recs, rc.ks.contains o = false) → γ o = some g → γ' o = some g) → Q .normal a' w') → wpListIn (wideR ro) 0 P ops Q l a w := by
  induction hev with
  | nil L ob => intro ro m γ w a Q _ hi hl hs hq; exact hq m γ w a (Trans.refl _ _ _) hi hl hs rfl (fun _ _ _ h => h)
  | cons hus hdst hn hst h ih =>
    intro ro m γ w a Q hd hi hl hs hq
    have hd1 : ro = none ∨ Oper.still _ = true := hd.imp id fun e => by simp only [List.all_cons, Bool.and_eq_true] at e; exact e.1
    have hd2 : ro = none ∨ List.all _ Oper.still = true := hd.imp id fun e => by simp only [List.all_cons, Bool.and_eq_true] at e; exact e.2
    unfold wpListIn
    refine gstep_in hd1 (hst.step m γ w a _ Q hi (hl.sub hus) fun m' γ' w' x ht hle hi' hx => ?_)
    exact ih hd2 hi' (repLoc_put hl hle hdst (fun e he => by rw [hs]; exact hn e he) hx) (by rw [size_put]; exact hs)
      fun m2 γ2 w2 a2 ht2 hi2 hl2 hs2 hd2 hk2 => hq m2 γ2 w2 a2 (ht.trans ht2) hi2 hl2 hs2 (hd2.trans (defers_put _ _ _))
        fun o g hks hg => hk2 o g (fun rc hrc => hks rc (List.mem_cons_of_mem _ hrc)) (hle.gam o g hg (hks _ (by simp)))
end
end Go.Am
