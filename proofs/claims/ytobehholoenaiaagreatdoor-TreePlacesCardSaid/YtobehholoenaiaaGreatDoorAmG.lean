/-
  An abstract machine, part G: operations that make objects, write to them, or make memory that is never written again.
-/
import Derived.Test.YtobehholoenaiaaGreatDoorAmF
import Derived.Great.BuildSlice
namespace Go.Am

def AV.one : AV → Bool
  | .any => false
  | .v (.agg _) => false
  | .v (.tuple _) => false
  | .ag _ => false
  | .tu _ => false
  | _ => true
/-- a value's cells -/
def acells : AV → Option (List AV)
  | .ag cs => cond (cs.all AV.one) (some cs) none
  | av => cond av.one (some [av]) none
theorem rep_one {m : Mem} {γ : Gam} {av : AV} {x : Value} (h : Rep m γ av x) (h1 : av.one = true) : x.oneCell' = true ∧ x.cells = #[x] := by
  cases av with
  | any => simp [AV.one] at h1
  | v y =>
    simp only [Rep] at h
    subst h
    cases x <;> simp_all [AV.one, Value.oneCell', Value.cells]
  | sl S rows => simp only [Rep] at h; obtain ⟨a, len, cap, rfl, _⟩ := h; exact ⟨rfl, rfl⟩
  | ag cs => simp [AV.one] at h1
  | tu cs => simp [AV.one] at h1
  | pt o off => simp only [Rep] at h; obtain ⟨b, C, _, rfl⟩ := h; exact ⟨rfl, rfl⟩
  | pf cs => simp only [Rep] at h; obtain ⟨b, C, rfl, _⟩ := h; exact ⟨rfl, rfl⟩
  | sr o S lo len => simp only [Rep] at h; rcases h with ⟨_, ⟨ad, rfl⟩, _⟩ | ⟨b, C, cap, _, _, _, _, (rfl | ⟨_, _, ad, rfl⟩)⟩ <;> exact ⟨rfl, rfl⟩
  | fn f fs cs => simp only [Rep] at h; obtain ⟨b, C, rfl, _⟩ := h; exact ⟨rfl, rfl⟩
  | ifc t y => simp only [Rep] at h; obtain ⟨z, rfl, _⟩ := h; exact ⟨rfl, rfl⟩
  | mp o => simp only [Rep] at h; obtain ⟨b, C, _, rfl⟩ := h; exact ⟨rfl, rfl⟩
  | yl o => simp only [Rep] at h; obtain ⟨b, C, _, rfl⟩ := h; exact ⟨rfl, rfl⟩
  | cl S rows => simp only [Rep] at h; obtain ⟨a, len, rfl, _⟩ := h; exact ⟨rfl, rfl⟩
theorem reps_one {m : Mem} {γ : Gam} : ∀ {cs : List AV} {xs : List Value}, RepVals m γ cs xs → cs.all AV.one = true → ∀ u ∈ xs, u.oneCell' = true
  | [], xs, h, _, u, hu => by simp only [RepVals] at h; subst h; cases hu
  | c :: cs, xs, h, h1, u, hu => by
    simp only [RepVals] at h
    obtain ⟨x, r, rfl, h2, h3⟩ := h
    simp only [List.all_cons, Bool.and_eq_true] at h1
    cases List.mem_cons.1 hu with
    | inl e => subst e; exact (rep_one h2 h1.1).1
    | inr e => exact reps_one h3 h1.2 u e
theorem rep_acells {m : Mem} {γ : Gam} {av : AV} {x : Value} {cs : List AV} (h : Rep m γ av x) (hc : acells av = some cs) : RepVals m γ cs x.cells.toList ∧ cs.all AV.one = true := by
  have one : ∀ (b : AV), b.one = true → Rep m γ b x → RepVals m γ [b] x.cells.toList ∧ [b].all AV.one = true := by
    intro b hb hr
    refine ⟨?_, by simp [hb]⟩
    rw [(rep_one hr hb).2]
    simp only [RepVals]
    exact ⟨x, [], rfl, hr, rfl⟩
  cases av with
  | ag ds =>
    simp only [acells] at hc
    cases hd : ds.all AV.one with
    | false => rw [hd] at hc; cases hc
    | true =>
      rw [hd] at hc
      simp only [cond_true, Option.some.injEq] at hc
      subst hc
      simp only [Rep] at h
      obtain ⟨xs, rfl, h2⟩ := h
      exact ⟨by simpa [Value.cells] using h2, hd⟩
  | v y =>
    simp only [acells] at hc
    cases hy : (AV.v y).one with
    | false => rw [hy] at hc; cases hc
    | true =>
      rw [hy] at hc
      simp only [cond_true, Option.some.injEq] at hc
      subst hc; exact one _ hy h
  | any => simp only [acells, AV.one, cond_false, reduceCtorEq] at hc
  | tu cs => simp only [acells, AV.one, cond_false, reduceCtorEq] at hc
  | _ =>
    simp only [acells, AV.one, cond_true, Option.some.injEq] at hc
    subst hc; exact one _ rfl h

def splice (cells : List AV) (off : Nat) (cs : List AV) : List AV := cells.take off ++ cs ++ cells.drop (off + cs.length)

/-- the same, cell by cell -/
def spl : List AV → Nat → List AV → List AV
  | c :: r, off + 1, cs => c :: spl r off cs
  | _ :: r, 0, d :: ds => d :: spl r 0 ds
  | cells, _, _ => cells
theorem spl_eq : ∀ {cells : List AV} {off : Nat} {cs : List AV}, off + cs.length ≤ cells.length → spl cells off cs = splice cells off cs
  | [], off, cs, h => by
    simp at h
    obtain ⟨rfl, rfl⟩ := h
    simp [spl, splice]
  | c :: r, off + 1, cs, h => by
    simp only [List.length_cons] at h
    rw [spl, spl_eq (by omega)]
    simp [splice, show off + 1 + cs.length = off + cs.length + 1 from by omega]
  | c :: r, 0, [], h => by simp [spl, splice]
  | c :: r, 0, d :: ds, h => by
    simp only [List.length_cons] at h
    rw [spl, spl_eq (by omega)]
    simp [splice]

/-! ### A new object -/
def addG (γ : Gam) (o b C : Nat) : Gam := fun k => if k = o then some (some (b, C)) else γ k
section
variable {P : Program} {m : Mem} {γ : Gam} {ob : List Ob} {w : World}
theorem le_addG (hi : Inv m γ ob w) (b C : Nat) : Le m γ [] m (addG γ ob.length b C) := by
  refine ⟨fun _ _ h => h, fun o g hg _ => ?_⟩
  have := hi.len o (by rw [hg]; simp)
  simp [addG, hg, show o ≠ ob.length by omega]
theorem rep_le0 {m' : Mem} {γ' : Gam} (h : Le m γ [] m' γ') {av : AV} {x : Value} (hr : Rep m γ av x) : Rep m' γ' av x := rep_le h av x (AV.free_nil av) hr
theorem reps_le0 {m' : Mem} {γ' : Gam} (h : Le m γ [] m' γ') {cs : List AV} {xs : List Value} (hr : RepVals m γ cs xs) : RepVals m' γ' cs xs := repVals_le h cs xs (freeVals_nil cs) hr
/-- An object as it was, in a later state of affairs. -/
theorem obAt_le0 {m' : Mem} {γ' : Gam} {w' : World} {o : Nat} {X : Ob} (h : ObAt m γ w o X) (hle : Le m γ [] m' γ') (hheap : ∀ b C, γ o = some (some (b, C)) → w'.heap[b]? = w.heap[b]?)
    (hm : ∀ b C, γ o = some (some (b, C)) → ∀ off, m ⟨b, off, none⟩ = none → m' ⟨b, off, none⟩ = none) : ObAt m' γ' w' o X := by
  cases X with
  | dead => trivial
  | box T cells =>
    obtain ⟨b, cs, h1, h2, h3, h4⟩ := h
    exact ⟨b, cs, hle.gam o _ h1 rfl, by rw [hheap b 0 h1]; exact h2, reps_le0 hle h3, fun off => hm b 0 h1 off (h4 off)⟩
  | row T S rows =>
    rcases h with ⟨h1, h2⟩ | ⟨b, C, cs, h1, h2, h3, h4, h5, h6, h7, h8⟩
    · exact .inl ⟨hle.gam o _ h1 rfl, h2⟩
    · exact .inr ⟨b, C, cs, hle.gam o _ h1 rfl, h2.of_eq (hheap b C h1), h3, h4, h5, h6, reps_le0 hle h7, fun off => hm b C h1 off (h8 off)⟩
  | mp keys vals =>
    obtain ⟨b, es, clock, h1, h2, h3, h4, h5⟩ := h
    exact ⟨b, es, clock, hle.gam o _ h1 rfl, by rw [hheap b 0 h1]; exact h2, h3, reps_le0 hle h4, fun off => hm b 0 h1 off (h5 off)⟩
  | lp busy k ts cs =>
    obtain ⟨b, r, xs, h1, h2, h3, h4, h5, h6⟩ := h
    exact ⟨b, r, xs, hle.gam o _ h1 rfl, by rw [hheap b 0 h1]; exact h2, h3, reps_le0 hle h4, h5, fun off => hm b 0 h1 off (h6 off)⟩
theorem alloc_old (w : World) (o : Obj) {k : Nat} (h : k < w.heap.size) : (w.alloc o).heap[k]? = w.heap[k]? := heap_alloc_old w o h
theorem mem_alloc (hi : Inv m γ ob w) (o : Obj) (a : Addr) (x : Value) (h : m a = some x) : (w.alloc o).cell? a = some x := by
  have h1 := hi.mem a x h
  rw [World.cell?_alloc_lt _ _ _ (World.block_lt_of_cell? w a h1)]; exact h1
theorem mem_fresh (hi : Inv m γ ob w) {b : Nat} (hb : w.heap.size ≤ b) (off : Nat) : m ⟨b, off, none⟩ = none := by
  cases h : m ⟨b, off, none⟩ with
  | none => rfl
  | some x =>
    have := World.block_lt_of_cell? w _ (hi.mem _ _ h)
    simp at this; omega
theorem inv_new (hi : Inv m γ ob w) (O : Obj) (C : Nat) (X : Ob) (hX : ObAt m (addG γ ob.length w.heap.size C) (w.alloc O) ob.length X) :
    Inv m (addG γ ob.length w.heap.size C) (ob ++ [X]) (w.alloc O) ∧ Trans m γ w m (addG γ ob.length w.heap.size C) (w.alloc O) := by
  have hold : ∀ o, o < ob.length → addG γ ob.length w.heap.size C o = γ o := fun o ho => by simp [addG, show o ≠ ob.length by omega]
  have hlv : ∀ o, live (ob ++ [X]) o → o < ob.length → live ob o := by
    rintro o ⟨Y, hY, hne⟩ ho
    rw [List.getElem?_append_left ho] at hY
    exact ⟨Y, hY, hne⟩
  have hlt : ∀ o, live (ob ++ [X]) o → o ≤ ob.length := by
    rintro o ⟨Y, hY, _⟩
    have := (List.getElem?_eq_some_iff.1 hY).1
    simp at this; omega
  refine ⟨⟨mem_alloc hi O, fun o Y hY => ?_, fun o o' b D D' h1 h2 h3 h4 => ?_, fun o b D h => ?_, fun o ho => ?_⟩, ?_⟩
  · by_cases ho : o < ob.length
    · rw [List.getElem?_append_left ho] at hY
      exact obAt_le0 (hi.obj o Y hY) (le_addG hi _ _) (fun b D hb => alloc_old w O (hi.dom o b D hb)) (fun _ _ _ _ h => h)
    · have := (List.getElem?_eq_some_iff.1 hY).1
      have hoe : o = ob.length := by simp at this; omega
      subst hoe
      rw [List.getElem?_append_right (Nat.le_refl _)] at hY
      simp at hY; subst hY; exact hX
  · have a1 := hlt o h1
    have a2 := hlt o' h2
    by_cases e1 : o = ob.length
    · by_cases e2 : o' = ob.length
      · rw [e1, e2]
      · rw [hold o' (by omega)] at h4
        rw [e1] at h3
        simp only [addG, if_true, Option.some.injEq, Prod.mk.injEq] at h3
        have := hi.dom _ _ _ h4
        omega
    · rw [hold o (by omega)] at h3
      by_cases e2 : o' = ob.length
      · rw [e2] at h4
        simp only [addG, if_true, Option.some.injEq, Prod.mk.injEq] at h4
        have := hi.dom _ _ _ h3
        omega
      · rw [hold o' (by omega)] at h4
        exact hi.sep o o' b D D' (hlv o h1 (by omega)) (hlv o' h2 (by omega)) h3 h4
  · simp only [World.size_alloc]
    by_cases e : o = ob.length
    · subst e
      simp only [addG, if_true, Option.some.injEq, Prod.mk.injEq] at h
      omega
    · simp only [addG, e, if_false] at h
      have := hi.dom _ _ _ h
      omega
  · by_cases e : o = ob.length
    · simp [e]
    · simp only [addG, e, if_false] at ho
      have := hi.len o ho
      simp; omega
  · refine ⟨fun _ _ h => h, fun _ _ h => .inl h, ?_, rfl, rfl, rfl, by simp, fun k hk _ => alloc_old w O hk⟩
    rintro k hk ⟨o, D, h⟩
    by_cases e : o = ob.length
    · subst e
      simp only [addG, if_true, Option.some.injEq, Prod.mk.injEq] at h
      omega
    · simp only [addG, e, if_false] at h
      exact ⟨o, D, h⟩
theorem inv_newbox (hi : Inv m γ ob w) (T : TypeId) {cells : List AV} {cs : Array Value} (hr : RepVals m γ cells cs.toList) :
    Inv m (addG γ ob.length w.heap.size 0) (ob ++ [.box T cells]) (w.alloc (.cells cs T)) ∧ Trans m γ w m (addG γ ob.length w.heap.size 0) (w.alloc (.cells cs T)) := by
  refine inv_new hi _ 0 _ ⟨w.heap.size, cs, by simp [addG], heap_alloc_new w _, reps_le0 (le_addG hi _ _) hr, fun off => mem_fresh hi (Nat.le_refl _) off⟩
end

section
variable {P : Program} {n : Nat} {ops : Array Oper} {l : List Oper} {L : Loc} {ob : List Ob} {kf : List Rec → Loc → List Ob → Prop} {gu : Loc}
variable {dst : Option Nat} {ty : TypeId} {pos : String} {after : Array Edge} {guard : Option (Nat × Bool)}

theorem repVals_plain {m : Mem} {γ : Gam} : ∀ (vs : List Value), RepVals m γ (vs.map .v) vs
  | [] => by simp [RepVals]
  | v :: vs => by simp only [List.map_cons, RepVals, Rep]; exact ⟨v, vs, rfl, rfl, repVals_plain vs⟩
theorem ev_alloc {T : TypeId} {zs : List Value} (N : Nat) (ob1 : List Ob) (hz : zer P T = some zs) (hN : ob.length = N) (hob : ob ++ [.box T (zs.map .v)] = ob1) (hg : Gd ops L guard gu) (hn : ∀ d, dst = some d → d < n)
    (kk : EvK P n ops l (updL L dst (.pt N 0) []) ob1 (fun recs => kf (⟨dst, gu ++ uses [], .pt N 0, [], .write⟩ :: recs))) :
    EvK P n ops (⟨dst, .alloc T, ty, pos, after, guard⟩ :: l) L ob kf :=
  by
  subst hN; subst hob
  exact ev_any2 (o := ⟨dst, .alloc T, ty, pos, after, guard⟩) [] [] trivial hg hn (fun m γ w a K Q hi _ hK => by
    unfold zer at hz
    cases hinf : P.info? T with
    | none => simp [hinf] at hz
    | some i =>
      simp only [hinf] at hz
      cases hzz : i.zero with
      | none => simp [hzz] at hz
      | some z =>
        simp only [hzz, Option.map_some, Option.some.injEq] at hz
        subst hz
        obtain ⟨h1, h2⟩ := inv_newbox hi T (cells := z.cells.toList.map .v) (cs := z.cells) (repVals_plain _)
        have hrun : (execOp a.eval ⟨dst, .alloc T, ty, pos, after, guard⟩).run P w = .ok (.value (.pointer (some ⟨w.heap.size, 0, none⟩))) (w.alloc (.cells z.cells T)) := by
          simp [execOp, Instr.alloc, zeroValue, typeInfo, hinf, hzz, newVar, newRow]
        unfold Oper.wp
        rw [hrun, Oper.upon_value]
        exact hK _ _ _ _ h2 (le_addG hi _ _) h1 (by simp only [Rep]; exact ⟨_, 0, by simp [addG], rfl⟩)) kk
theorem ev_box {T : TypeId} {x : Operand} {av : AV} {cs : List AV} (N : Nat) (ob1 : List Ob) (hx : aeval L x = some av) (hc : acells av = some cs) (hN : ob.length = N) (hob : ob ++ [.box T cs] = ob1) (hg : Gd ops L guard gu) (hn : ∀ d, dst = some d → d < n)
    (kk : EvK P n ops l (updL L dst (.pt N 0) []) ob1 (fun recs => kf (⟨dst, gu ++ uses [(x, av)], .pt N 0, [], .write⟩ :: recs))) :
    EvK P n ops (⟨dst, .box T x, ty, pos, after, guard⟩ :: l) L ob kf :=
  by
  subst hN; subst hob
  exact ev_any2 (o := ⟨dst, .box T x, ty, pos, after, guard⟩) [] [(x, av)] ⟨hx, trivial⟩ hg hn (fun m γ w a K Q hi h hK => by
    obtain ⟨h1, h2⟩ := inv_newbox hi T (rep_acells h.1 hc).1
    have hrun : (execOp a.eval ⟨dst, .box T x, ty, pos, after, guard⟩).run P w = .ok (.value (.pointer (some ⟨w.heap.size, 0, none⟩))) (w.alloc (.cells (a.eval x).cells T)) := by
      simp [execOp, Instr.box, newVar, newRow]
    unfold Oper.wp
    rw [hrun, Oper.upon_value]
    exact hK _ _ _ _ h2 (le_addG hi _ _) h1 (by simp only [Rep]; exact ⟨_, 0, by simp [addG], rfl⟩)) kk
end
end Go.Am
