/-
  An abstract machine, part M: plain operations at a stroke; interfaces, closures; calls that are handed all objects; slices and maps made anew.
-/
import Derived.Test.YtobehholoenaiaaGreatDoorAmL
import Derived.Laws.BytesString
import Derived.Laws.MakeOwn
import Derived.MapKept
namespace Go.Am

/-- An operation that writes, and leaves the first k objects as they are. -/
theorem ev_from {P : Program} {n : Nat} {ops : Array Oper} {o : Oper} {L us : Loc} {ob ob1 : List Ob} {r : AV} (k : Nat) (hk : ∀ i, i < k → ob1[i]? = ob[i]?)
    (H : ∀ kf : List Rec → Loc → List Ob → Prop, EvK P n ops [] (updL L o.dst r []) ob1 (fun recs => kf (⟨o.dst, us, r, [], .write⟩ :: recs)) → EvK P n ops [o] L ob kf) {l : List Oper} {kf : List Rec → Loc → List Ob → Prop}
    (kk : EvK P n ops l (updL L o.dst r []) ob1 (fun recs => kf (⟨o.dst, us, r, [], .from k⟩ :: recs))) : EvK P n ops (o :: l) L ob kf := by
  obtain ⟨recs, L2, ob2, hev, rfl, rfl⟩ := H (fun recs _ ob2 => recs = [⟨o.dst, us, r, [], .write⟩] ∧ ob2 = ob1) (evk_nil ⟨rfl, rfl⟩)
  cases hev with
  | cons hus hdst hn hst h =>
    cases h with
    | nil =>
      refine evk_cons (rc := ⟨o.dst, us, r, [], .from k⟩) hus rfl hn ?_ kk
      exact ⟨hk, hst⟩

theorem ev_chg {P : Program} {n : Nat} {ops : Array Oper} {o : Oper} {L us : Loc} {ob ob1 : List Ob} {r : AV} (t : Nat) (hk : ∀ i, tb t i = false → ob1[i]? = ob[i]?)
    (H : ∀ kf : List Rec → Loc → List Ob → Prop, EvK P n ops [] (updL L o.dst r []) ob1 (fun recs => kf (⟨o.dst, us, r, [], .write⟩ :: recs)) → EvK P n ops [o] L ob kf) {l : List Oper} {kf : List Rec → Loc → List Ob → Prop}
    (kk : EvK P n ops l (updL L o.dst r []) ob1 (fun recs => kf (⟨o.dst, us, r, [], .chg t⟩ :: recs))) : EvK P n ops (o :: l) L ob kf := by
  obtain ⟨recs, L2, ob2, hev, rfl, rfl⟩ := H (fun recs _ ob2 => recs = [⟨o.dst, us, r, [], .write⟩] ∧ ob2 = ob1) (evk_nil ⟨rfl, rfl⟩)
  cases hev with
  | cons hus hdst hn hst h =>
    cases h with
    | nil =>
      refine evk_cons (rc := ⟨o.dst, us, r, [], .chg t⟩) hus rfl hn ?_ kk
      exact ⟨hk, hst⟩

/-! ### What hangs on nothing but its operands -/
/-- a computation that asks the world nothing -/
def plainS {α : Type} (P : Program) : Sem α → Option α
  | .pure a => some a
  | .program k => plainS P (k P)
  | .mark _ k => plainS P k
  | _ => none
theorem plainS_run {α : Type} {P : Program} : ∀ {s : Sem α} {a : α}, plainS P s = some a → ∀ w : World, s.run P w = .ok a w := by
  intro s
  induction s with
  | pure a => intro b h w; simp only [plainS, Option.some.injEq] at h; subst h; rfl
  | program k ih => intro b h w; exact ih P h w
  | mark m k ih => intro b h w; exact ih h w
  | _ => intro b h w; cases h

def plainV : AV → Option Value
  | .v x => some x
  | .ag cs => match plains cs with
    | some vs => some (.agg vs.toArray)
    | none => none
  | .tu cs => match plains cs with
    | some vs => some (.tuple vs.toArray)
    | none => none
  | _ => none
theorem plainV_rep {m : Mem} {γ : Gam} {av : AV} {x y : Value} (h : plainV av = some y) (hr : Rep m γ av x) : x = y := by
  cases av with
  | v z => simp only [plainV, Option.some.injEq] at h; subst h; simpa [Rep] using hr
  | ag cs =>
    simp only [plainV] at h
    cases hp : plains cs with
    | none => simp [hp] at h
    | some vs =>
      simp only [hp, Option.some.injEq] at h
      subst h
      rw [plains_spec hp] at hr
      simp only [Rep] at hr
      obtain ⟨xs, rfl, h2⟩ := hr
      rw [rep_plains h2]
  | tu cs =>
    simp only [plainV] at h
    cases hp : plains cs with
    | none => simp [hp] at h
    | some vs =>
      simp only [hp, Option.some.injEq] at h
      subst h
      rw [plains_spec hp] at hr
      simp only [Rep] at hr
      obtain ⟨xs, rfl, h2⟩ := hr
      rw [rep_plains h2]
  | _ => cases h
def ofV : Value → AV
  | .agg cs => .ag (cs.toList.map .v)
  | .tuple cs => .tu (cs.toList.map .v)
  | v => .v v
theorem rep_ofV {m : Mem} {γ : Gam} (v : Value) : Rep m γ (ofV v) v := by
  cases v <;> simp only [ofV, Rep]
  · exact ⟨_, by simp, repVals_plain _⟩
  · exact ⟨_, by simp, repVals_plain _⟩

/-- the operands of an operation that may be plain -/
def opArgs : Op → Option (List Operand)
  | .binOp _ _ x y _ => some [x, y]
  | .unOp _ _ x => some [x]
  | .convert _ _ x => some [x]
  | .field _ x _ => some [x]
  | .index _ x i => some [x, i]
  | .extract x _ => some [x]
  | .makeInterface _ x => some [x]
  | .lookup _ m k _ => some [m, k]
  | .slice _ x lo hi mo => some (x :: (lo.toList ++ (hi.toList ++ mo.toList)))
  | .call c => match c.callee with
    | .builtin _ => some c.args.toList
    | _ => none
  | _ => none
theorem map_congr_arr {ρ ρ' : Operand → Value} {as : Array Operand} (h : ∀ x ∈ as.toList, ρ x = ρ' x) : as.map ρ = as.map ρ' := by
  apply Array.map_congr_left
  intro a ha
  exact h a (by simpa using ha)
theorem execOp_congr {ρ ρ' : Operand → Value} {o : Oper} {xs : List Operand} (ho : opArgs o.op = some xs) (h : ∀ x ∈ xs, ρ x = ρ' x) : execOp ρ o = execOp ρ' o := by
  obtain ⟨dst, op, ty, pos, after, guard⟩ := o
  cases op with
  | call c =>
    obtain ⟨callee, args, ts⟩ := c
    cases callee with
    | builtin b =>
      simp only [opArgs, Option.some.injEq] at ho
      subst ho
      simp only [execOp, resolve, map_congr_arr h]
    | _ => simp [opArgs] at ho
  | slice t x lo hi mo =>
    simp only [opArgs, Option.some.injEq] at ho
    subst ho
    have hx := h x (by simp)
    have hl : lo.map ρ = lo.map ρ' := by
      cases lo with
      | none => rfl
      | some y => rw [Option.map_some, Option.map_some, h y (by simp)]
    have hh : hi.map ρ = hi.map ρ' := by
      cases hi with
      | none => rfl
      | some y => rw [Option.map_some, Option.map_some, h y (by simp)]
    have hm : mo.map ρ = mo.map ρ' := by
      cases mo with
      | none => rfl
      | some y => rw [Option.map_some, Option.map_some, h y (by simp)]
    simp only [execOp, hx, hl, hh, hm]
  | _ =>
    simp only [opArgs] at ho
    first
    | (cases ho; done)
    | (simp only [Option.some.injEq] at ho
       subst ho
       simp only [List.mem_cons, List.not_mem_nil, or_false, forall_eq_or_imp, forall_eq] at h
       simp only [execOp, h])
/-- the operands' plain values -/
def argV (ev : Operand → Option AV) (x : Operand) : Value := match ev x with
  | some av => match plainV av with
    | some v => v
    | none => undef
  | none => undef
def argPair (ev : Operand → Option AV) (x : Operand) : Operand × AV := (x, match ev x with
  | some av => av
  | none => .any)
def plainOk (ev : Operand → Option AV) : List Operand → Bool
  | [] => true
  | x :: xs => match ev x with
    | some av => match plainV av with
      | some _ => plainOk ev xs
      | none => false
    | none => false
theorem plainOk_spec {L : Loc} : ∀ {xs : List Operand}, plainOk (aeval L) xs = true → EvalAll L (xs.map (argPair (aeval L))) ∧ ∀ {m : Mem} {γ : Gam} {a : Act}, RepXs m γ a (xs.map (argPair (aeval L))) → ∀ x ∈ xs, a.eval x = argV (aeval L) x
  | [], _ => ⟨trivial, fun _ x hx => by cases hx⟩
  | x :: xs, h => by
    simp only [plainOk] at h
    cases hx : aeval L x with
    | none => simp [hx] at h
    | some av =>
      cases hp : plainV av with
      | none => simp [hx, hp] at h
      | some v =>
        simp only [hx, hp] at h
        obtain ⟨h1, h2⟩ := plainOk_spec h
        refine ⟨⟨by simp [hx], h1⟩, fun hr y hy => ?_⟩
        obtain ⟨r1, r2⟩ := hr
        cases List.mem_cons.1 hy with
        | inl e =>
          subst e
          simp only [hx] at r1
          rw [plainV_rep hp r1]
          simp [argV, hx, hp]
        | inr e => exact h2 r2 y e

/-- a slice's or pointer's or map's like, that is not nil for sure; and of what kind -/
def notNil (_ob : List Ob) : AV → Nat
  | .pt _ _ => 1
  | .pf _ => 1
  | .fn _ _ _ => 2
  | .ifc _ _ => 3
  | .mp _ => 4
  | .yl _ => 2
  | .sl _ (_ :: _) => 5
  | .sr _o _ _ (_ + 1) => 5
  | _ => 0
def nilKind : Value → Nat
  | .pointer none => 1
  | .nilFunc => 2
  | .nilIface => 3
  | .map none => 4
  | .slice none 0 0 => 5
  | _ => 0
def kindT (P : Program) (t : TypeId) : Nat := match P.underlying t with
  | some (.pointer _) => 1
  | some (.func _ _ _) => 2
  | some (.interface _) => 3
  | some (.map _ _) => 4
  | some (.slice _) => 5
  | _ => 0
/-- the value of one shape and nil of the same kind -/
inductive NN : Nat → Value → Prop
  | ptr (a : Addr) : NN 1 (.pointer (some a))
  | fn (f : Fn) (x y : Array Value) : NN 2 (.func f x y)
  | ifc (t : TypeId) (x : Value) : NN 3 (.iface t x)
  | map (r : Nat) : NN 4 (.map (some r))
  | sl (a : Addr) (l c : Nat) : NN 5 (.slice (some a) l c)
theorem nn_of {m : Mem} {γ : Gam} {ob : List Ob} {av : AV} {x : Value} {k : Nat} (hk : notNil ob av = k + 1) (hr : Rep m γ av x) : NN (k + 1) x := by
  cases av with
  | pt o off => simp only [notNil] at hk; rw [← hk]; simp only [Rep] at hr; obtain ⟨b, C, _, rfl⟩ := hr; exact .ptr _
  | pf cs => simp only [notNil] at hk; rw [← hk]; simp only [Rep] at hr; obtain ⟨b, off, rfl, _⟩ := hr; exact .ptr _
  | fn f fs cs => simp only [notNil] at hk; rw [← hk]; simp only [Rep] at hr; obtain ⟨xs, ys, rfl, _⟩ := hr; exact .fn _ _ _
  | yl o => simp only [notNil] at hk; rw [← hk]; simp only [Rep] at hr; obtain ⟨b, C, _, rfl⟩ := hr; exact .fn _ _ _
  | ifc t y => simp only [notNil] at hk; rw [← hk]; simp only [Rep] at hr; obtain ⟨z, rfl, _⟩ := hr; exact .ifc _ _
  | mp o => simp only [notNil] at hk; rw [← hk]; simp only [Rep] at hr; obtain ⟨b, C, _, rfl⟩ := hr; exact .map _
  | sl S rows =>
    cases rows with
    | nil => simp [notNil] at hk
    | cons r rs =>
      simp only [notNil] at hk; rw [← hk]
      simp only [Rep] at hr
      obtain ⟨a, len, cap, rfl, _, _, h⟩ := hr
      obtain ⟨b, off, rfl, _⟩ := h.resolve_left (by simp)
      exact .sl _ _ _
  | sr o S lo len =>
    cases len with
    | zero => simp [notNil] at hk
    | succ len =>
      simp only [notNil] at hk; rw [← hk]
      simp only [Rep] at hr
      rcases hr with ⟨_, _, _, h⟩ | ⟨b, C, cap, _, _, _, _, (rfl | ⟨h, _⟩)⟩
      · omega
      · exact .sl _ _ _
      · omega
  | _ => simp [notNil] at hk
theorem nilKind_spec {y : Value} {k : Nat} (hy : nilKind y = k) : (k = 1 ∧ y = .pointer none) ∨ (k = 2 ∧ y = .nilFunc) ∨ (k = 3 ∧ y = .nilIface) ∨ (k = 4 ∧ y = .map none) ∨ (k = 5 ∧ y = .slice none 0 0) ∨ k = 0 := by
  unfold nilKind at hy
  split at hy <;> subst hy <;> simp
inductive NP : Value → Value → Nat → Prop
  | ptr (a : Addr) : NP (.pointer (some a)) (.pointer none) 1
  | fn (f : Fn) (x y : Array Value) : NP (.func f x y) .nilFunc 2
  | ifc (t : TypeId) (x : Value) : NP (.iface t x) .nilIface 3
  | map (r : Nat) : NP (.map (some r)) (.map none) 4
  | sl (a : Addr) (l c : Nat) : NP (.slice (some a) l c) (.slice none 0 0) 5
theorem np_of {k : Nat} {x y : Value} (hx : NN (k + 1) x) (hy : nilKind y = k + 1) : NP x y (k + 1) := by
  cases hx <;> (rcases nilKind_spec hy with ⟨h, rfl⟩ | ⟨h, rfl⟩ | ⟨h, rfl⟩ | ⟨h, rfl⟩ | ⟨h, rfl⟩ | h <;> first | (exact absurd h (by decide)) | constructor)
theorem eq_nn {P : Program} {w : World} {k d : Nat} {x y : Value} {t : TypeId} (h : NP x y (k + 1)) (ht : kindT P t = k + 1) : (Op.equalIn (d + 1) t x y).run P w = .ok false w := by
  have hu : ∃ d, P.underlying t = some d ∧ (match d with | .pointer _ => 1 | .func _ _ _ => 2 | .interface _ => 3 | .map _ _ => 4 | .slice _ => 5 | _ => 0) = k + 1 := by
    unfold kindT at ht
    cases hu : P.underlying t with
    | none => simp [hu] at ht
    | some d =>
      rw [hu] at ht
      refine ⟨d, rfl, ?_⟩
      rw [← ht]
      cases d <;> rfl
  obtain ⟨D, hu, hd⟩ := hu
  cases h <;> (cases D <;> first | (cases hd; done) | simp [Op.equalIn, run_underlying hu])
theorem run_nn {P : Program} {w : World} {k : Nat} {x y : Value} {t : TypeId} (hx : NN (k + 1) x) (hy : nilKind y = k + 1) (ht : kindT P t = k + 1) (p q : Operand) :
    (do eqGuard .eql t p q x y; binOp .eql t x y).run P w = .ok (.bool false) w ∧ (do eqGuard .neq t p q x y; binOp .neq t x y).run P w = .ok (.bool true) w := by
  have h := np_of hx hy
  have he : (Op.equal t x y).run P w = .ok false w := eq_nn (P := P) (w := w) (d := 9999) h ht
  have hg : ∀ op, (eqGuard op t p q x y).run P w = .ok () w := by
    intro op
    unfold eqGuard
    cases h <;> (split <;> rfl)
  have hb : binOp .eql t x y = (do pure (.bool (← Op.equal t x y))) ∧ binOp .neq t x y = (do pure (.bool (!(← Op.equal t x y)))) := by
    cases h <;> exact ⟨rfl, rfl⟩
  constructor
  · rw [Sem.run_bind, hg, Result.andThen_ok, hb.1, Sem.run_bind, he]; rfl
  · rw [Sem.run_bind, hg, Result.andThen_ok, hb.2, Sem.run_bind, he]; rfl

section
variable {P : Program} {n : Nat} {ops : Array Oper} {l : List Oper} {L : Loc} {ob : List Ob} {kf : List Rec → Loc → List Ob → Prop} {gu : Loc}
variable {dst : Option Nat} {ty : TypeId} {pos : String} {after : Array Edge} {guard : Option (Nat × Bool)}

theorem ev_plainop {o : Oper} {xs : List Operand} {r : Value} (ho : opArgs o.op = some xs) (hx : plainOk (aeval L) xs = true) (hr : plainS P (execOp (argV (aeval L)) o) = some (.value r)) (hg : Gd ops L o.guard gu) (hn : ∀ d, o.dst = some d → d < n)
    (k : EvK P n ops l (updL L o.dst (ofV r) []) ob (fun recs => kf (⟨o.dst, gu ++ uses (xs.map (argPair (aeval L))), ofV r, [], .pure⟩ :: recs))) : EvK P n ops (o :: l) L ob kf :=
  ev_val0 (xs.map (argPair (aeval L))) (plainOk_spec hx).1 hg hn (fun m γ w a _ h => ⟨r, by
    rw [execOp_congr ho ((plainOk_spec hx).2 h)]
    exact plainS_run hr w, rep_ofV r⟩) k

theorem ev_nn {op : BinOp} {x y : Operand} {t t' : TypeId} {av : AV} {z : Value} {k : Nat} {c : Bool} (hx : aeval L x = some av) (hy : aeval L y = some (.v z)) (h1 : notNil ob av = k + 1) (h2 : nilKind z = k + 1) (h3 : kindT P t = k + 1) (hc : (op = .eql ∧ c = false) ∨ (op = .neq ∧ c = true)) (hg : Gd ops L guard gu) (hn : ∀ d, dst = some d → d < n)
    (kk : EvK P n ops l (updL L dst (.v (.bool c)) []) ob (fun recs => kf (⟨dst, gu ++ uses [(x, av), (y, .v z)], .v (.bool c), [], .pure⟩ :: recs))) :
    EvK P n ops (⟨dst, .binOp op t x y t', ty, pos, after, guard⟩ :: l) L ob kf :=
  ev_val0 (o := ⟨dst, .binOp op t x y t', ty, pos, after, guard⟩) [(x, av), (y, .v z)] ⟨hx, hy, trivial⟩ hg hn (fun m γ w a _ h => by
    obtain ⟨g1, g2, _⟩ := h
    simp only [Rep] at g2
    have := run_nn (P := P) (w := w) (nn_of h1 g1) h2 h3 x y
    refine ⟨.bool c, ?_, by simp [Rep]⟩
    rcases hc with ⟨rfl, rfl⟩ | ⟨rfl, rfl⟩
    · have h4 := this.1
      simp only [Sem.run_bind] at h4
      simp only [execOp, g2, Sem.run_bind, h4, Result.andThen_ok, Sem.run_pure]
    · have h4 := this.2
      simp only [Sem.run_bind] at h4
      simp only [execOp, g2, Sem.run_bind, h4, Result.andThen_ok, Sem.run_pure]) kk

def isIfaceT (P : Program) (t : TypeId) : Option Bool := match P.underlying t with
  | some (.interface _) => some true
  | some _ => some false
  | none => none
theorem ev_makeI {x : Operand} {t : TypeId} {av : AV} (ht : isIfaceT P t = some false) (hx : aeval L x = some av) (hg : Gd ops L guard gu) (hn : ∀ d, dst = some d → d < n)
    (kk : EvK P n ops l (updL L dst (.ifc t av) []) ob (fun recs => kf (⟨dst, gu ++ uses [(x, av)], .ifc t av, [], .pure⟩ :: recs))) :
    EvK P n ops (⟨dst, .makeInterface t x, ty, pos, after, guard⟩ :: l) L ob kf :=
  ev_val0 (o := ⟨dst, .makeInterface t x, ty, pos, after, guard⟩) [(x, av)] ⟨hx, trivial⟩ hg hn (fun m γ w a _ h => by
    refine ⟨.iface t (a.eval x), ?_, by simp only [Rep]; exact ⟨_, rfl, h.1⟩⟩
    unfold isIfaceT at ht
    cases hu : P.underlying t with
    | none => simp [hu] at ht
    | some d =>
      rw [hu] at ht
      cases d <;> first | (simp at ht; done) | simp [execOp, Instr.makeInterface, run_underlying hu]) kk
theorem evA_uses {L : Loc} {ps qs : List Operand} {avs bvs : List AV} {xs ys : List (Operand × AV)} (h : EvA L ps avs xs) (k : EvA L qs bvs ys) : EvalAll L (xs ++ ys) := by
  have h1 := evA_all h
  have h2 := evA_all k
  clear h k
  induction xs with
  | nil => exact h2
  | cons p xs ih => exact ⟨h1.1, ih h1.2⟩
theorem repXs_split {m : Mem} {γ : Gam} {a : Act} : ∀ {xs ys : List (Operand × AV)}, RepXs m γ a (xs ++ ys) → RepXs m γ a xs ∧ RepXs m γ a ys
  | [], _ys, h => ⟨trivial, h⟩
  | (_x, _av) :: _xs, _ys, h => ⟨⟨h.1, (repXs_split h.2).1⟩, (repXs_split h.2).2⟩
theorem ev_makeF {f : Fn} {fs cs : List Operand} {avs bvs : List AV} {xs ys : List (Operand × AV)} (h1 : EvA L fs avs xs) (h2 : EvA L cs bvs ys) (hg : Gd ops L guard gu) (hn : ∀ d, dst = some d → d < n)
    (kk : EvK P n ops l (updL L dst (.fn f avs bvs) []) ob (fun recs => kf (⟨dst, gu ++ uses (xs ++ ys), .fn f avs bvs, [], .pure⟩ :: recs))) :
    EvK P n ops (⟨dst, .makeFunc f fs.toArray cs.toArray, ty, pos, after, guard⟩ :: l) L ob kf :=
  ev_val0 (o := ⟨dst, .makeFunc f fs.toArray cs.toArray, ty, pos, after, guard⟩) (xs ++ ys) (evA_uses h1 h2) hg hn (fun m γ w a _ h => by
    obtain ⟨g1, g2⟩ := repXs_split h
    refine ⟨.func f (fs.map a.eval).toArray (cs.map a.eval).toArray, by simp [execOp, Instr.makeFunc], ?_⟩
    simp only [Rep]
    exact ⟨_, _, rfl, evA_reps h1 g1, evA_reps h2 g2⟩) kk

/-- A call that is handed all objects as they are. -/
theorem ev_callW {x : Operand} {f : FuncId} {fs cs : List AV} {args : List Operand} {avs : List AV} {xs : List (Operand × AV)} {ts : Array TypeId} {r : AV} {ks : List Nat} {ob1 : List Ob} (hx : aeval L x = some (.fn (.func f) fs cs)) (ha : EvA L args avs xs) (hc : ARet P f (fs ++ (avs ++ cs)) ob ks r ob1) (hg : Gd ops L guard gu) (hn : ∀ d, dst = some d → d < n)
    (kk : EvK P n ops l (updL L dst r ks) ob1 (fun recs => kf (⟨dst, gu ++ uses ((x, .fn (.func f) fs cs) :: xs), r, ks, .write⟩ :: recs))) :
    EvK P n ops (⟨dst, .call ⟨.value x, args.toArray, ts⟩, ty, pos, after, guard⟩ :: l) L ob kf :=
  ev_any2 (o := ⟨dst, .call ⟨.value x, args.toArray, ts⟩, ty, pos, after, guard⟩) ks ((x, .fn (.func f) fs cs) :: xs) ⟨hx, evA_all ha⟩ hg hn (fun m γ w a K Q hi h hK => by
    obtain ⟨h1, h2⟩ := h
    simp only [Rep] at h1
    obtain ⟨us, vs, e, r1, r2⟩ := h1
    obtain ⟨⟨fn, hf, hname, hb⟩, hc⟩ := hc
    unfold Oper.wp
    rw [run_call hf hname hb (first := us) (cap := vs) e, Oper.upon_enter]
    refine (hc m γ w (us ++ args.map a.eval ++ vs) hi ?_).mono ?_
    · rw [List.append_assoc]
      exact repVals_append r1 (repVals_append (evA_reps ha h2) r2)
    · rintro e w' ⟨m', γ', r', ob', ⟨rfl, rfl⟩, h2, h3, h4, h5⟩
      cases e with
      | returned v => exact hK m' γ' w' v h3 ⟨h3.mem, fun o g hg hk => h5 o g hk hg⟩ h4 h2
      | panicked c => exact h2.elim
      | outgrown => exact h2.elim) kk
/-- A call that sees no object, of a function value too. -/
theorem ev_callP {x : Operand} {f : FuncId} {fs cs : List AV} {args : List Operand} {avs : List AV} {xs : List (Operand × AV)} {ts : Array TypeId} {r : AV} (hx : aeval L x = some (.fn (.func f) fs cs)) (ha : EvA L args avs xs) (hc : ARet P f (fs ++ (avs ++ cs)) [] [] r []) (hp : pureVals avs = true) (hp1 : pureVals fs = true) (hp2 : pureVals cs = true) (hr : r.pure = true)
    (hg : Gd ops L guard gu) (hn : ∀ d, dst = some d → d < n)
    (kk : EvK P n ops l (updL L dst r []) ob (fun recs => kf (⟨dst, gu ++ uses ((x, .fn (.func f) fs cs) :: xs), r, [], .pure⟩ :: recs))) :
    EvK P n ops (⟨dst, .call ⟨.value x, args.toArray, ts⟩, ty, pos, after, guard⟩ :: l) L ob kf :=
  ev_any0 (o := ⟨dst, .call ⟨.value x, args.toArray, ts⟩, ty, pos, after, guard⟩) ((x, .fn (.func f) fs cs) :: xs) ⟨hx, evA_all ha⟩ hg hn (fun ob m γ w a K Q hi h hK => by
    obtain ⟨h1, h2⟩ := h
    simp only [Rep] at h1
    obtain ⟨us, vs, e, r1, r2⟩ := h1
    refine wp_call (sel := []) (obc := []) (ob := ob) hc hi List.nodup_nil trivial (by simp) (first := us) (cap := vs) e ?_ (fun e o ⟨h1, h2⟩ => ⟨r, h1, Nat.zero_le _⟩) ?_
    · rw [renVals_append, renVals_append, renVals_pure _ _ hp, renVals_pure _ _ hp1, renVals_pure _ _ hp2, List.append_assoc]
      exact repVals_append r1 (repVals_append (evA_reps ha h2) r2)
    · rintro m' γ' w' v r' obc' ⟨h1, rfl⟩ h2 h3 h4 h5
      cases h1
      rw [ren_pure _ _ hr] at h5
      rw [back_nil] at h4
      exact hK m' γ' w' v h2 h3 h4 h5) kk
end
end Go.Am
