/-
  An abstract machine, part F: operators, lengths, indexes, pieces of slices.
-/
import Derived.Test.YtobehholoenaiaaGreatDoorAmE
namespace Go.Am

def cmpI : BinOp → Int → Int → Bool
  | .eql, a, b => decide (a = b)
  | .neq, a, b => !decide (a = b)
  | .lss, a, b => decide (a < b)
  | .leq, a, b => decide (a ≤ b)
  | .gtr, a, b => decide (b < a)
  | .geq, a, b => decide (b ≤ a)
  | _, _, _ => false
def isCmp : BinOp → Bool
  | .eql | .neq | .lss | .leq | .gtr | .geq => true
  | _ => false
def arI : BinOp → Int → Int → Int
  | .add, a, b => a + b
  | .sub, a, b => a - b
  | .mul, a, b => a * b
  | _, _, _ => 0
def isAr : BinOp → Bool
  | .add | .sub | .mul => true
  | _ => false
theorem int_beq (a b : Int) : (a == b) = decide (a = b) := rfl
theorem int_bne (a b : Int) : (a != b) = !decide (a = b) := rfl
theorem wrap_i64 {a : Int} (h0 : -9223372036854775808 ≤ a) (h1 : a ≤ 9223372036854775807) : IntKind.i64.wrap a = a := by
  unfold IntKind.wrap IntKind.signed IntKind.bits
  simp only [Bool.true_and, decide_eq_true_eq]
  have e1 : (2 : Int) ^ 64 = 18446744073709551616 := rfl
  have e2 : (2 : Int) ^ (64 - 1) = 9223372036854775808 := rfl
  rw [e1, e2]
  split <;> omega

/-- two plain values: are they equal? -/
def eqv : Value → Value → Option Bool
  | .int k a, .int k' b => cond (decide (k = k')) (some (decide (a = b))) none
  | .bool a, .bool b => some (a == b)
  | .string a, .string b => some (a.toList == b.toList)
  | _, _ => none
def kt (P : Program) (t : TypeId) : Nat := match P.underlying t with
  | some (.int _) => 0
  | some .bool => 1
  | some .string => 2
  | _ => 3
def kv : Value → Nat
  | .int _ _ => 0
  | .bool _ => 1
  | .string _ => 2
  | _ => 4
def scsF (P : Program) : List Field → Option (List (Nat × Nat))
  | [] => some []
  | f :: fs => if f.name = "_" then none else match scsF P fs with
    | some r => some ((f.offset, kt P f.type) :: r)
    | none => none
/-- the places and kinds of a struct's fields, where structs of this type can be compared plainly -/
def fk (P : Program) (t : TypeId) : Option (List (Nat × Nat)) := match P.underlying t with
  | some (.struct fs) => if P.stoodInHeld t || P.eqGuardType P.depth t then none else scsF P fs.toList
  | _ => none
/-- two structs of plain fields (places, kinds): are they equal? -/
def eqS : List (Nat × Nat) → List Value → List Value → Option Bool
  | [], _, _ => some true
  | (i, k) :: is, xs, ys => match xs[i]?, ys[i]? with
    | some x, some y => cond (Nat.beq (kv x) k) (match eqv x y with
      | some b => match eqS is xs ys with
        | some c => some (b && c)
        | none => none
      | none => none) none
    | _, _ => none

section
variable {P : Program} {w : World}
theorem run_equalIn_scal {t : TypeId} {x y : Value} {b : Bool} (hk : kv x = kt P t) (hb : eqv x y = some b) (d : Nat) : (Op.equalIn (d + 1) t x y).run P w = .ok b w := by
  unfold kt at hk
  cases hu : P.underlying t with
  | none => rw [hu] at hk; cases x <;> simp [kv] at hk
  | some D =>
    rw [hu] at hk
    cases x <;> cases y <;> simp only [eqv] at hb <;> first | (cases hb; done) | skip
    · cases D <;> first | (simp [kv] at hk; done) | skip
      cases hb; simp [Op.equalIn, run_underlying hu]
    · rename_i k a k' c
      cases D <;> first | (simp [kv] at hk; done) | skip
      by_cases hkk : k = k'
      · subst hkk
        simp only [decide_true, cond_true, Option.some.injEq] at hb
        subst hb
        simp only [Op.equalIn, Sem.run_bind, run_underlying hu, Result.andThen_ok, if_true, Sem.run_pure]
        rw [int_beq]
      · simp [hkk] at hb
    · cases D <;> first | (simp [kv] at hk; done) | skip
      cases hb; simp [Op.equalIn, run_underlying hu, beq_toListBytes]

theorem run_part_one {t : TypeId} {xs : List Value} {i : Nat} {x : Value} (hk : kv x = kt P t) (hx : xs[i]? = some x) : (part t xs.toArray i).run P w = .ok x w := by
  unfold kt at hk
  cases hu : P.underlying t with
  | none => rw [hu] at hk; cases x <;> simp [kv] at hk
  | some D =>
    have hagg : (isAgg t).run P w = .ok false w := by
      unfold isAgg
      rw [Sem.run_bind, run_underlying hu w]
      rw [hu] at hk
      cases D <;> first | (cases x <;> simp [kv] at hk; done) | simp
    simp [part, hagg, hx]
theorem kv_eqv {x y : Value} {b : Bool} (h : eqv x y = some b) : kv y = kv x := by
  cases x <;> cases y <;> simp_all [eqv, kv]

theorem run_eqFields {xs ys : List Value} {d : Nat} : ∀ {fs : List Field} {os : List (Nat × Nat)} {b : Bool}, scsF P fs = some os → eqS os xs ys = some b → (Op.eqFields (d + 1) xs.toArray ys.toArray fs).run P w = .ok b w
  | [], os, b, hs, hb => by
    simp only [scsF, Option.some.injEq] at hs; subst hs
    simp only [eqS, Option.some.injEq] at hb; subst hb; simp [Op.eqFields]
  | f :: fs, os, b, hs, hb => by
    simp only [scsF] at hs
    by_cases hname : f.name = "_"
    · simp [hname] at hs
    · rw [if_neg hname] at hs
      cases hs' : scsF P fs with
      | none => simp [hs'] at hs
      | some os' =>
        simp only [hs', Option.some.injEq] at hs
        subst hs
        simp only [eqS] at hb
        cases hx : xs[f.offset]? with
        | none => simp [hx] at hb
        | some x =>
          cases hy : ys[f.offset]? with
          | none => simp [hx, hy] at hb
          | some y =>
            simp only [hx, hy] at hb
            cases hk : Nat.beq (kv x) (kt P f.type) with
            | false => simp [hk] at hb
            | true =>
              have hk' := Nat.eq_of_beq_eq_true hk
              cases he : eqv x y with
              | none => simp [hk, he] at hb
              | some c =>
                cases hr : eqS os' xs ys with
                | none => simp [hk, he, hr] at hb
                | some c' =>
                  simp only [hk, he, hr, cond_true, Option.some.injEq] at hb
                  have ih := run_eqFields (d := d) hs' hr
                  simp only [Op.eqFields, ne_eq, hname, not_false_eq_true, if_true, Sem.run_bind, run_part_one hk' hx, run_part_one ((kv_eqv he).trans hk') hy, Result.andThen_ok, run_equalIn_scal hk' he]
                  cases c <;> simp_all
theorem run_eq_struct {t : TypeId} {fs : List (Nat × Nat)} (h : fk P t = some fs) {xs ys : List Value} {b : Bool} (hb : eqS fs xs ys = some b) (x y : Operand) :
    (do eqGuard .eql t x y (.agg xs.toArray) (.agg ys.toArray); binOp .eql t (.agg xs.toArray) (.agg ys.toArray)).run P w = .ok (.bool b) w ∧
    (do eqGuard .neq t x y (.agg xs.toArray) (.agg ys.toArray); binOp .neq t (.agg xs.toArray) (.agg ys.toArray)).run P w = .ok (.bool !b) w := by
  unfold fk at h
  cases hu : P.underlying t with
  | none => simp [hu] at h
  | some D =>
    cases D with
    | struct F =>
      simp only [hu] at h
      split at h
      · cases h
      · rename_i hg
        simp only [Bool.or_eq_true, not_or, Bool.not_eq_true] at hg
        have hfo : P.fieldsOf t = F := by simp [Program.fieldsOf, hu]
        have hst := run_equalIn_struct (P := P) w 9999 t xs.toArray ys.toArray (by rw [hfo]; exact hu) hg.1
        rw [hfo] at hst
        have := run_eqFields (P := P) (w := w) (d := 9998) h hb
        rw [this] at hst
        constructor
        · rw [Sem.run_bind, run_eqGuard_agg w .eql t x y _ _ hg.2, Result.andThen_ok, run_eql_struct, hst]; rfl
        · rw [Sem.run_bind, run_eqGuard_agg w .neq t x y _ _ hg.2, Result.andThen_ok, run_neq_struct, hst]; rfl
    | _ => simp [hu] at h
end

section
variable {P : Program} {n : Nat} {ops : Array Oper} {l : List Oper} {L : Loc} {ob : List Ob} {kf : List Rec → Loc → List Ob → Prop} {gu : Loc}
variable {dst : Option Nat} {ty : TypeId} {pos : String} {after : Array Edge} {guard : Option (Nat × Bool)}

/-- plain operands alone, a plain value -/
theorem ev_plain2 {op : Op} {x y : Operand} {u v r : Value} (hx : aeval L x = some (.v u)) (hy : aeval L y = some (.v v)) (hg : Gd ops L guard gu) (hn : ∀ d, dst = some d → d < n)
    (h : ∀ (w : World) (ρ : Operand → Value), ρ x = u → ρ y = v → (execOp ρ ⟨dst, op, ty, pos, after, guard⟩).run P w = .ok (.value r) w)
    (k : EvK P n ops l (updL L dst (.v r) []) ob (fun recs => kf (⟨dst, gu ++ uses [(x, .v u), (y, .v v)], .v r, [], .pure⟩ :: recs))) :
    EvK P n ops (⟨dst, op, ty, pos, after, guard⟩ :: l) L ob kf :=
  ev_val0 (o := ⟨dst, op, ty, pos, after, guard⟩) [(x, .v u), (y, .v v)] ⟨hx, hy, trivial⟩ hg hn (fun m γ w a _ h1 => by
    obtain ⟨h2, h3, _⟩ := h1
    simp only [Rep] at h2 h3
    exact ⟨r, h w a.eval h2 h3, by simp [Rep]⟩) k
theorem ev_plain1 {op : Op} {x : Operand} {u r : Value} (hx : aeval L x = some (.v u)) (hg : Gd ops L guard gu) (hn : ∀ d, dst = some d → d < n)
    (h : ∀ (w : World) (ρ : Operand → Value), ρ x = u → (execOp ρ ⟨dst, op, ty, pos, after, guard⟩).run P w = .ok (.value r) w)
    (k : EvK P n ops l (updL L dst (.v r) []) ob (fun recs => kf (⟨dst, gu ++ uses [(x, .v u)], .v r, [], .pure⟩ :: recs))) :
    EvK P n ops (⟨dst, op, ty, pos, after, guard⟩ :: l) L ob kf :=
  ev_val0 (o := ⟨dst, op, ty, pos, after, guard⟩) [(x, .v u)] ⟨hx, trivial⟩ hg hn (fun m γ w a _ h1 => by
    obtain ⟨h2, _⟩ := h1
    simp only [Rep] at h2
    exact ⟨r, h w a.eval h2, by simp [Rep]⟩) k

theorem ev_cmp {op : BinOp} {x y : Operand} {t t' : TypeId} {q : IntKind} {a b : Int} {c : Bool} (hop : isCmp op = true) (hx : aeval L x = some (.v (.int q a))) (hy : aeval L y = some (.v (.int q b))) (hc : cmpI op a b = c) (hg : Gd ops L guard gu) (hn : ∀ d, dst = some d → d < n)
    (k : EvK P n ops l (updL L dst (.v (.bool c)) []) ob (fun recs => kf (⟨dst, gu ++ uses [(x, .v (.int q a)), (y, .v (.int q b))], .v (.bool c), [], .pure⟩ :: recs))) :
    EvK P n ops (⟨dst, .binOp op t x y t', ty, pos, after, guard⟩ :: l) L ob kf :=
  ev_plain2 hx hy hg hn (fun w ρ h1 h2 => by
    subst hc
    cases op <;> first | (cases hop; done) | skip
    all_goals simp [execOp, h1, h2, eqGuard, binOp, Op.intCmp, cmpI, int_beq, int_bne]) k
theorem ev_ar {op : BinOp} {x y : Operand} {t t' : TypeId} {q : IntKind} {a b c : Int} (hop : isAr op = true) (hx : aeval L x = some (.v (.int q a))) (hy : aeval L y = some (.v (.int q b))) (hw : q.wrap (arI op a b) = c) (hg : Gd ops L guard gu) (hn : ∀ d, dst = some d → d < n)
    (k : EvK P n ops l (updL L dst (.v (.int q c)) []) ob (fun recs => kf (⟨dst, gu ++ uses [(x, .v (.int q a)), (y, .v (.int q b))], .v (.int q c), [], .pure⟩ :: recs))) :
    EvK P n ops (⟨dst, .binOp op t x y t', ty, pos, after, guard⟩ :: l) L ob kf :=
  ev_plain2 hx hy hg hn (fun w ρ h1 h2 => by
    subst hw
    cases op <;> first | (cases hop; done) | skip
    all_goals simp [execOp, h1, h2, eqGuard, binOp, Op.intArith, arI]) k
theorem ev_not {x : Operand} {t : TypeId} {b : Bool} (hx : aeval L x = some (.v (.bool b))) (hg : Gd ops L guard gu) (hn : ∀ d, dst = some d → d < n)
    (k : EvK P n ops l (updL L dst (.v (.bool !b)) []) ob (fun recs => kf (⟨dst, gu ++ uses [(x, .v (.bool b))], .v (.bool !b), [], .pure⟩ :: recs))) :
    EvK P n ops (⟨dst, .unOp .not t x, ty, pos, after, guard⟩ :: l) L ob kf :=
  ev_plain1 hx hg hn (fun w ρ h1 => by simp [execOp, h1, Op.unary]) k

theorem rep_plains {m : Mem} {γ : Gam} : ∀ {vs xs : List Value}, RepVals m γ (vs.map .v) xs → xs = vs
  | [], xs, h => by simpa [RepVals] using h
  | v :: vs, xs, h => by
    simp only [List.map_cons, RepVals, Rep] at h
    obtain ⟨x, r, rfl, rfl, h3⟩ := h
    rw [rep_plains h3]
/-- the plain cells of a struct -/
def plains : List AV → Option (List Value)
  | [] => some []
  | .v x :: r => match plains r with
    | some xs => some (x :: xs)
    | none => none
  | _ :: _ => none
theorem plains_spec : ∀ {cs : List AV} {vs : List Value}, plains cs = some vs → cs = vs.map .v
  | [], vs, h => by simp only [plains, Option.some.injEq] at h; subst h; rfl
  | c :: cs, vs, h => by
    cases c <;> simp only [plains] at h <;> first | (cases h; done) | skip
    cases hr : plains cs with
    | none => simp [hr] at h
    | some xs => simp only [hr, Option.some.injEq] at h; subst h; simp [plains_spec hr]
theorem ev_eqS {op : BinOp} {x y : Operand} {t t' : TypeId} {fs : List (Nat × Nat)} {cs ds : List AV} {us vs : List Value} {b : Bool} (hop : op = .eql ∨ op = .neq) (hf : fk P t = some fs) (hx : aeval L x = some (.ag cs)) (hy : aeval L y = some (.ag ds))
    (hu : plains cs = some us) (hv : plains ds = some vs) (hb : eqS fs us vs = some b) (hg : Gd ops L guard gu) (hn : ∀ d, dst = some d → d < n)
    (k : EvK P n ops l (updL L dst (.v (.bool (if op = .eql then b else !b))) []) ob (fun recs => kf (⟨dst, gu ++ uses [(x, .ag cs), (y, .ag ds)], .v (.bool (if op = .eql then b else !b)), [], .pure⟩ :: recs))) :
    EvK P n ops (⟨dst, .binOp op t x y t', ty, pos, after, guard⟩ :: l) L ob kf :=
  ev_val0 (o := ⟨dst, .binOp op t x y t', ty, pos, after, guard⟩) [(x, .ag cs), (y, .ag ds)] ⟨hx, hy, trivial⟩ hg hn (fun m γ w a _ h1 => by
    obtain ⟨h2, h3, _⟩ := h1
    rw [plains_spec hu] at h2
    rw [plains_spec hv] at h3
    simp only [Rep] at h2 h3
    obtain ⟨xs, e1, r1⟩ := h2
    obtain ⟨ys, e2, r2⟩ := h3
    have := rep_plains r1; subst this
    have := rep_plains r2; subst this
    have hr := run_eq_struct (P := P) (w := w) hf hb x y
    refine ⟨_, ?_, by simp only [Rep]; rfl⟩
    rcases hop with rfl | rfl
    · simp only [execOp, e1, e2, Sem.run_bind] at hr ⊢
      rw [hr.1]; simp
    · simp only [execOp, e1, e2, Sem.run_bind] at hr ⊢
      rw [hr.2]; simp) k

/-! ### Lengths, indexes, pieces -/
theorem run_len {t : TypeId} {d : TypeId × Nat × Nat} (h : slk P t = some d) (_ts : Array TypeId) (w : World) (a : Option Addr) (len cap : Nat) : (Builtin.len_ #[t] ty #[.slice a len cap]).run P w = .ok (.int .i64 len) w := by
  unfold slk at h
  cases hu : P.underlying t with
  | none => simp [hu] at h
  | some D =>
    cases D with
    | slice e => simp [Builtin.len_, run_underlying hu, goInt]
    | _ => simp [hu] at h
theorem slk_elem {t e : TypeId} {S B : Nat} (h : slk P t = some (e, S, B)) : P.underlying t = some (.slice e) ∧ ∃ i, P.info? e = some i ∧ i.size = S ∧ i.bytes = B := by
  unfold slk at h
  cases hu : P.underlying t with
  | none => simp [hu] at h
  | some D =>
    cases D with
    | slice e' =>
      simp only [hu] at h
      cases hi : P.info? e' with
      | none => simp [hi] at h
      | some i =>
        simp only [hi, Option.some.injEq, Prod.mk.injEq] at h
        obtain ⟨rfl, h2, h3⟩ := h
        exact ⟨rfl, i, hi, h2, h3⟩
    | _ => simp [hu] at h
/-- a slice's length, where it is plain to see -/
def lenA : AV → Option Nat
  | .sl _ rows => some rows.length
  | .sr _ _ _ len => some len
  | .v (.slice _ len cap) => cond (Nat.ble len cap) (some len) none
  | _ => none
theorem ev_len {x : Operand} {t : TypeId} {d : TypeId × Nat × Nat} {av : AV} {k : Nat} (ht : slk P t = some d) (hx : aeval L x = some av) (hk : match av with | .sl _ rows => rows.length = k | .sr _ _ _ len => len = k | .v (.slice _ len _) => len = k | _ => False)
    (hg : Gd ops L guard gu) (hn : ∀ d, dst = some d → d < n)
    (kk : EvK P n ops l (updL L dst (.v (.int .i64 k)) []) ob (fun recs => kf (⟨dst, gu ++ uses [(x, av)], .v (.int .i64 k), [], .pure⟩ :: recs))) :
    EvK P n ops (⟨dst, .call ⟨.builtin .len, #[x], #[t]⟩, ty, pos, after, guard⟩ :: l) L ob kf :=
  ev_val0 (o := ⟨dst, .call ⟨.builtin .len, #[x], #[t]⟩, ty, pos, after, guard⟩) [(x, av)] ⟨hx, trivial⟩ hg hn (fun m γ w a _ h => by
    have h1 := h.1
    have key : ∃ b c, a.eval x = .slice b k c := by
      cases av with
      | sl S rows => simp only [Rep] at h1; obtain ⟨b, len, cap, e, e2, _⟩ := h1; simp only at hk; subst hk; subst e2; exact ⟨b, cap, e⟩
      | sr o S lo len =>
        simp only at hk; subst hk
        simp only [Rep] at h1
        rcases h1 with ⟨_, e, _, e2⟩ | ⟨b, C, cap, _, _, _, _, (e | ⟨e0, _, ad, e⟩)⟩
        · obtain ⟨ad, e⟩ := e; exact ⟨ad, 0, by rw [e, e2]⟩
        · exact ⟨_, _, e⟩
        · exact ⟨_, _, by rw [e0]; exact e⟩
      | v y =>
        simp only [Rep] at h1
        cases y <;> first | exact hk.elim | skip
        simp only at hk; subst hk
        exact ⟨_, _, h1⟩
      | _ => exact hk.elim
    obtain ⟨b, c, e⟩ := key
    refine ⟨.int .i64 k, ?_, by simp [Rep]⟩
    have := run_len (ty := ty) ht #[t] w b k c
    simp [execOp, resolve, invoke, builtin, e, this]) kk
theorem ev_lens {x : Operand} {t : TypeId} {s : ByteArray} (ht : P.underlying t = some .string) (hx : aeval L x = some (.v (.string s))) (hg : Gd ops L guard gu) (hn : ∀ d, dst = some d → d < n)
    (kk : EvK P n ops l (updL L dst (.v (.int .i64 s.size)) []) ob (fun recs => kf (⟨dst, gu ++ uses [(x, .v (.string s))], .v (.int .i64 s.size), [], .pure⟩ :: recs))) :
    EvK P n ops (⟨dst, .call ⟨.builtin .len, #[x], #[t]⟩, ty, pos, after, guard⟩ :: l) L ob kf :=
  ev_plain1 hx hg hn (fun w ρ h1 => by
    have := run_len_string (P := P) (w := w) t ty s ht
    simp [execOp, resolve, invoke, builtin, h1, this, goInt]) kk
theorem ev_minmax {x y : Operand} {tx ty' : TypeId} {b : Builtin} {q : IntKind} {u v : Int} (hb : b = .min ∨ b = .max) (hx : aeval L x = some (.v (.int q u))) (hy : aeval L y = some (.v (.int q v))) (hg : Gd ops L guard gu) (hn : ∀ d, dst = some d → d < n)
    (kk : EvK P n ops l (updL L dst (.v (.int q (if b = .min then min u v else max u v))) []) ob (fun recs => kf (⟨dst, gu ++ uses [(x, .v (.int q u)), (y, .v (.int q v))], .v (.int q (if b = .min then min u v else max u v)), [], .pure⟩ :: recs))) :
    EvK P n ops (⟨dst, .call ⟨.builtin b, #[x, y], #[tx, ty']⟩, ty, pos, after, guard⟩ :: l) L ob kf :=
  ev_plain2 hx hy hg hn (fun w ρ h1 h2 => by
    rcases hb with rfl | rfl
    · have := run_min_int2 (P := P) (w := w) #[tx, ty'] ty q q u v
      simp [execOp, resolve, invoke, builtin, h1, h2, this]
      by_cases h : v < u
      · rw [if_pos h]; omega
      · rw [if_neg h]; omega
    · have := run_max_int2 (P := P) (w := w) #[tx, ty'] ty q q u v
      simp [execOp, resolve, invoke, builtin, h1, h2, this]
      by_cases h : v > u
      · rw [if_pos h]; omega
      · rw [if_neg h]; omega) kk

theorem run_indexAt {t e : TypeId} {S B : Nat} (h : slk P t = some (e, S, B)) (w : World) (b off len cap : Nat) (q : IntKind) (i : Nat) (hi : i < len) :
    (Instr.indexAt t (.slice (some ⟨b, off, none⟩) len cap) (.int q i)).run P w = .ok (.pointer (some ⟨b, off + i * S, none⟩)) w := by
  obtain ⟨hu, inf, h1, h2, _⟩ := slk_elem h
  have hc : (0 : Int) ≤ (i : Int) ∧ (i : Int) < (len : Int) := by omega
  simp only [Instr.indexAt, asIntOf, Sem.run_bind, Sem.run_pure, Result.andThen_ok, run_underlying hu]
  simp only [sizeOf, typeInfo, Sem.run_bind, run_program, Result.andThen_ok, h1, Sem.run_pure, h2, hc, and_self, if_true]
  simp [add_addr]
theorem ev_indexAddr_sl {x i : Operand} {t e : TypeId} {S B : Nat} {rows : List (List AV)} {row : List AV} {q : IntKind} {z : Int} (ht : slk P t = some (e, S, B)) (hx : aeval L x = some (.sl S rows)) (hi : aeval L i = some (.v (.int q z))) (hz : 0 ≤ z) (hr : rows[z.toNat]? = some row)
    (hg : Gd ops L guard gu) (hn : ∀ d, dst = some d → d < n)
    (kk : EvK P n ops l (updL L dst (.pf row) []) ob (fun recs => kf (⟨dst, gu ++ uses [(x, .sl S rows), (i, .v (.int q z))], .pf row, [], .pure⟩ :: recs))) :
    EvK P n ops (⟨dst, .indexAddr t x i, ty, pos, after, guard⟩ :: l) L ob kf :=
  ev_val0 (o := ⟨dst, .indexAddr t x i, ty, pos, after, guard⟩) [(x, .sl S rows), (i, .v (.int q z))] ⟨hx, hi, trivial⟩ hg hn (fun m γ w a _ h => by
    obtain ⟨h1, h2, _⟩ := h
    simp only [Rep] at h1 h2
    obtain ⟨ad, len, cap, e1, e2, e3, e4⟩ := h1
    have hlt : z.toNat < rows.length := (List.getElem?_eq_some_iff.1 hr).1
    obtain ⟨b, off, rfl, e5⟩ := e4.resolve_left (fun hc => by rw [hc] at hlt; simp at hlt)
    have := run_indexAt ht w b off len cap q z.toNat (by omega)
    rw [Int.toNat_of_nonneg hz] at this
    refine ⟨.pointer (some ⟨b, off + z.toNat * S, none⟩), ?_, ?_⟩
    · simp only [execOp, e1, h2, Sem.run_bind, this, Result.andThen_ok, Sem.run_pure]
    · simp only [Rep]; exact ⟨b, _, rfl, (repRows_get e5 _ _ hr).2⟩) kk
theorem ev_indexAddr_sr {x i : Operand} {t e : TypeId} {S B o lo len : Nat} {q : IntKind} {z : Int} (ht : slk P t = some (e, S, B)) (hx : aeval L x = some (.sr o S lo len)) (hi : aeval L i = some (.v (.int q z))) (hz : 0 ≤ z) (hr : z < len)
    (hg : Gd ops L guard gu) (hn : ∀ d, dst = some d → d < n)
    (kk : EvK P n ops l (updL L dst (.pt o (lo * S + z.toNat * S)) []) ob (fun recs => kf (⟨dst, gu ++ uses [(x, .sr o S lo len), (i, .v (.int q z))], .pt o (lo * S + z.toNat * S), [], .pure⟩ :: recs))) :
    EvK P n ops (⟨dst, .indexAddr t x i, ty, pos, after, guard⟩ :: l) L ob kf :=
  ev_val0 (o := ⟨dst, .indexAddr t x i, ty, pos, after, guard⟩) [(x, .sr o S lo len), (i, .v (.int q z))] ⟨hx, hi, trivial⟩ hg hn (fun m γ w a _ h => by
    obtain ⟨h1, h2, _⟩ := h
    simp only [Rep] at h1 h2
    rcases h1 with ⟨_, _, _, e⟩ | ⟨b, C, cap, g1, g2, _, _, (g3 | ⟨e, _⟩)⟩
    · omega
    rotate_left
    · omega
    · have := run_indexAt ht w b (lo * S) len cap q z.toNat (by omega)
      rw [Int.toNat_of_nonneg hz] at this
      refine ⟨.pointer (some ⟨b, lo * S + z.toNat * S, none⟩), ?_, ?_⟩
      · simp only [execOp, g3, h2, Sem.run_bind, this, Result.andThen_ok, Sem.run_pure]
      · simp only [Rep]; exact ⟨b, C, g1, rfl⟩) kk
/-- a bound of a piece: absent (then 'd'), or a number -/
inductive Bd (L : Loc) (d : Nat) : Option Operand → Nat → List (Operand × AV) → Prop
  | non : Bd L d none d []
  | num {x : Operand} {q : IntKind} {z : Int} (hx : aeval L x = some (.v (.int q z))) (hz : 0 ≤ z) : Bd L d (some x) z.toNat [(x, .v (.int q z))]
theorem bd_all {L : Loc} {d : Nat} {x : Option Operand} {k : Nat} {xs : List (Operand × AV)} (h : Bd L d x k xs) {ys : List (Operand × AV)} (hy : EvalAll L ys) : EvalAll L (xs ++ ys) := by
  cases h with
  | non => exact hy
  | num hx _ => exact ⟨hx, hy⟩
theorem bd_rep {L : Loc} {d : Nat} {x : Option Operand} {k : Nat} {xs : List (Operand × AV)} (h : Bd L d x k xs) {m : Mem} {γ : Gam} {a : Act} {ys : List (Operand × AV)} (hr : RepXs m γ a (xs ++ ys)) :
    ((x = none ∧ k = d) ∨ ∃ o q, x = some o ∧ a.eval o = .int q (k : Int)) ∧ RepXs m γ a ys := by
  cases h with
  | non => exact ⟨.inl ⟨rfl, rfl⟩, hr⟩
  | num hx hz =>
    obtain ⟨h1, h2⟩ := hr
    simp only [Rep] at h1
    exact ⟨.inr ⟨_, _, rfl, by rw [h1, Int.toNat_of_nonneg hz]⟩, h2⟩
theorem run_bound (w : World) (q : IntKind) (k y : Nat) (code : BoundsCode) (h : k ≤ y) : (Instr.sliceBound (.int q k) y code).run P w = .ok k w := by
  have := run_sliceBound (P := P) (w := w) q (k : Int) y code (by omega) (by omega)
  simpa using this
theorem run_piece {t e : TypeId} {S B : Nat} (h : slk P t = some (e, S, B)) (w : World) (ad : Option Addr) (len cap l hh mx : Nat) (lo hi mo : Option Value)
    (hlo : (lo = none ∧ l = 0) ∨ ∃ q, lo = some (.int q (l : Int))) (hhi : (hi = none ∧ hh = len ∧ mo = none) ∨ ∃ q, hi = some (.int q (hh : Int))) (hmo : (mo = none ∧ mx = cap) ∨ ∃ q, mo = some (.int q (mx : Int))) (h1 : l ≤ hh) (h2 : hh ≤ mx) (h3 : mx ≤ cap) :
    (Instr.sliceAt t (.slice ad len cap) lo hi mo).run P w = .ok (.slice (if mx = l then ad else ad.map (·.add (l * S))) (hh - l) (mx - l)) w := by
  obtain ⟨hu, inf, g1, g2, _⟩ := slk_elem h
  have hsz : (sizeOf e).run P w = .ok S w := by simp [sizeOf, typeInfo, g1, g2]
  have key : (Instr.sliceBounds true len cap lo hi mo).run P w = .ok (l, hh, mx) w := by
    rcases hmo with ⟨rfl, rfl⟩ | ⟨qm, rfl⟩
    · rcases hhi with ⟨rfl, rfl, _⟩ | ⟨qh, rfl⟩
      · rcases hlo with ⟨rfl, rfl⟩ | ⟨ql, rfl⟩
        · simp [Instr.sliceBounds]
        · simp [Instr.sliceBounds, run_bound w _ _ _ _ h1]
      · rcases hlo with ⟨rfl, rfl⟩ | ⟨ql, rfl⟩
        · simp [Instr.sliceBounds, run_bound w _ _ _ _ h2]
        · simp [Instr.sliceBounds, run_bound w _ _ _ _ h1, run_bound w _ _ _ _ h2]
    · rcases hhi with ⟨rfl, rfl, hc⟩ | ⟨qh, rfl⟩
      · cases hc
      · rcases hlo with ⟨rfl, rfl⟩ | ⟨ql, rfl⟩
        · simp [Instr.sliceBounds, run_bound w _ _ _ _ h2, run_bound w _ _ _ _ h3]
        · simp [Instr.sliceBounds, run_bound w _ _ _ _ h1, run_bound w _ _ _ _ h2, run_bound w _ _ _ _ h3]
  simp only [Instr.sliceAt, Sem.run_bind, run_underlying hu, Result.andThen_ok]
  simp only [Instr.slice, Sem.run_bind, run_underlying hu, Result.andThen_ok, key, hsz, Sem.run_pure]
/-- a piece of a frozen slice -/
theorem ev_slice_sl {x : Operand} {lo hi : Option Operand} {t e : TypeId} {S B : Nat} {rows : List (List AV)} {p q : Nat} {xl xh : List (Operand × AV)} (ht : slk P t = some (e, S, B)) (hx : aeval L x = some (.sl S rows)) (hl : Bd L 0 lo p xl) (hh : Bd L rows.length hi q xh)
    (h1 : p ≤ q) (h2 : q ≤ rows.length) (hg : Gd ops L guard gu) (hn : ∀ d, dst = some d → d < n)
    (kk : EvK P n ops l (updL L dst (.sl S ((rows.drop p).take (q - p))) []) ob (fun recs => kf (⟨dst, gu ++ uses (xl ++ (xh ++ [(x, .sl S rows)])), .sl S ((rows.drop p).take (q - p)), [], .pure⟩ :: recs))) :
    EvK P n ops (⟨dst, .slice t x lo hi none, ty, pos, after, guard⟩ :: l) L ob kf :=
  ev_val0 (o := ⟨dst, .slice t x lo hi none, ty, pos, after, guard⟩) (xl ++ (xh ++ [(x, .sl S rows)])) (bd_all hl (bd_all hh ⟨hx, trivial⟩)) hg hn (fun m γ w a _ h => by
    obtain ⟨k1, h⟩ := bd_rep hl h
    obtain ⟨k2, h⟩ := bd_rep hh h
    have h5 := h.1
    simp only [Rep] at h5
    obtain ⟨ad, len, cap, e1, e2, e3, e4⟩ := h5
    subst e2
    have hr := run_piece (P := P) ht w ad rows.length cap p q cap (lo.map a.eval) (hi.map a.eval) none (by
      rcases k1 with ⟨rfl, rfl⟩ | ⟨o, q', rfl, hq⟩
      · exact .inl ⟨rfl, rfl⟩
      · exact .inr ⟨q', by simp [hq]⟩) (by
      rcases k2 with ⟨rfl, rfl⟩ | ⟨o, q', rfl, hq⟩
      · exact .inl ⟨rfl, rfl, rfl⟩
      · exact .inr ⟨q', by simp [hq]⟩) (.inl ⟨rfl, rfl⟩) h1 (by omega) (Nat.le_refl _)
    refine ⟨_, by simp only [execOp, e1, Option.map_none, Sem.run_bind, hr, Result.andThen_ok, Sem.run_pure]; rfl, ?_⟩
    simp only [Rep]
    refine ⟨_, _, _, rfl, by simp; omega, by omega, ?_⟩
    by_cases hpq : p = q
    · left; subst hpq; simp
    · right
      have hne : rows ≠ [] := by intro hc; subst hc; simp at h2; omega
      obtain ⟨b, off, rfl, e5⟩ := e4.resolve_left hne
      refine ⟨b, off + p * S, ?_, repRows_take (repRows_drop e5 p) _⟩
      rw [if_neg (by omega)]
      simp [add_addr]) kk
/-- a piece of a live row -/
theorem ev_slice_sr {x : Operand} {lo hi mo : Option Operand} {t e : TypeId} {S B o l0 len : Nat} {p q mx : Nat} {xl xh xm : List (Operand × AV)} (ht : slk P t = some (e, S, B)) (hx : aeval L x = some (.sr o S l0 len)) (hl : Bd L 0 lo p xl) (hh : Bd L len hi q xh) (hm : Bd L 0 mo mx xm)
    (h1 : p ≤ q) (h2 : q ≤ len) (h3 : mo = none ∨ ((∃ h, hi = some h) ∧ q ≤ mx ∧ mx ≤ len ∧ (mx ≠ p ∨ l0 + p ≠ 0))) (hg : Gd ops L guard gu) (hn : ∀ d, dst = some d → d < n)
    (kk : EvK P n ops l (updL L dst (.sr o S (l0 + p) (q - p)) []) ob (fun recs => kf (⟨dst, gu ++ uses (xl ++ (xh ++ (xm ++ [(x, .sr o S l0 len)]))), .sr o S (l0 + p) (q - p), [], .pure⟩ :: recs))) :
    EvK P n ops (⟨dst, .slice t x lo hi mo, ty, pos, after, guard⟩ :: l) L ob kf :=
  ev_val0 (o := ⟨dst, .slice t x lo hi mo, ty, pos, after, guard⟩) (xl ++ (xh ++ (xm ++ [(x, .sr o S l0 len)]))) (bd_all hl (bd_all hh (bd_all hm ⟨hx, trivial⟩))) hg hn (fun m γ w a _ h => by
    obtain ⟨k1, h⟩ := bd_rep hl h
    obtain ⟨k2, h⟩ := bd_rep hh h
    obtain ⟨k3, h⟩ := bd_rep hm h
    have h5 := h.1
    have hb1 : (lo.map a.eval = none ∧ p = 0) ∨ ∃ q, lo.map a.eval = some (.int q (p : Int)) := by
      rcases k1 with ⟨rfl, rfl⟩ | ⟨o, q', rfl, hq⟩
      · exact .inl ⟨rfl, rfl⟩
      · exact .inr ⟨q', by simp [hq]⟩
    have hb2 : (hi.map a.eval = none ∧ q = len ∧ mo.map a.eval = none) ∨ ∃ q', hi.map a.eval = some (.int q' (q : Int)) := by
      rcases k2 with ⟨rfl, rfl⟩ | ⟨o, q', rfl, hq⟩
      · rcases h3 with rfl | ⟨⟨h, hh⟩, _⟩
        · exact .inl ⟨rfl, rfl, rfl⟩
        · cases hh
      · exact .inr ⟨q', by simp [hq]⟩
    have hb3 : ∀ cap, len ≤ cap → ∃ mx', ((mo.map a.eval = none ∧ mx' = cap) ∨ ∃ q, mo.map a.eval = some (.int q (mx' : Int))) ∧ q ≤ mx' ∧ mx' ≤ cap ∧ (mx' ≠ p ∨ l0 + p ≠ 0 ∨ p = 0) ∧ (mo = none ∨ mx' ≤ len) := by
      intro cap hc
      rcases k3 with ⟨rfl, _⟩ | ⟨o, q', rfl, hq⟩
      · exact ⟨cap, .inl ⟨rfl, rfl⟩, by omega, Nat.le_refl _, by omega, .inl rfl⟩
      · rcases h3 with hc2 | ⟨_, g1, g2, g3⟩
        · cases hc2
        · exact ⟨mx, .inr ⟨q', by simp [hq]⟩, g1, by omega, by omega, .inr g2⟩
    simp only [Rep] at h5
    rcases h5 with ⟨g1, ⟨ad, g2⟩, g3, g4⟩ | ⟨b, C, cap, g1, g2, g3, g4, g5⟩
    · subst g4; subst g3
      obtain rfl : q = 0 := by omega
      obtain rfl : p = 0 := by omega
      obtain ⟨mx', m1, m2, m3, m4, m5⟩ := hb3 0 (by omega)
      obtain rfl : mx' = 0 := by omega
      have hr := run_piece (P := P) ht w ad 0 0 0 0 0 (lo.map a.eval) (hi.map a.eval) (mo.map a.eval) hb1 hb2 m1 h1 (by omega) (Nat.le_refl _)
      exact ⟨_, by simp only [execOp, g2, Sem.run_bind, hr, Result.andThen_ok, Sem.run_pure]; rfl, by simp [Rep, g1]⟩
    · obtain ⟨mx', m1, m2, m3, m4, m5⟩ := hb3 cap g3
      have key : ∀ ad, a.eval x = .slice ad len cap → (Instr.sliceAt t (a.eval x) (lo.map a.eval) (hi.map a.eval) (mo.map a.eval)).run P w = .ok (.slice (if mx' = p then ad else ad.map (·.add (p * S))) (q - p) (mx' - p)) w := by
        intro ad e
        rw [e]
        exact run_piece (P := P) ht w ad len cap p q mx' (lo.map a.eval) (hi.map a.eval) (mo.map a.eval) hb1 hb2 m1 h1 m2 m3
      rcases g5 with g5 | ⟨g6, g7, ad, g5⟩
      · refine ⟨_, by simp only [execOp, Sem.run_bind, key _ g5, Result.andThen_ok, Sem.run_pure]; rfl, ?_⟩
        simp only [Rep]
        refine .inr ⟨b, C, mx' - p, g1, by omega, by omega, by omega, ?_⟩
        by_cases hmp : mx' = p
        · rw [if_pos hmp]
          by_cases hp0 : p = 0
          · left; subst hp0; rw [Nat.add_zero]
          · right; exact ⟨by omega, by omega, _, by rw [show q - p = 0 from by omega]⟩
        · rw [if_neg hmp]
          left
          simp only [Option.map_some, add_addr, Nat.add_mul]
      · subst g6
        obtain rfl : q = 0 := by omega
        obtain rfl : p = 0 := by omega
        refine ⟨_, by simp only [execOp, Sem.run_bind, key _ g5, Result.andThen_ok, Sem.run_pure]; rfl, ?_⟩
        simp only [Rep]
        exact .inr ⟨b, C, mx' - 0, g1, by omega, by omega, by omega, .inr ⟨by simp, by omega, _, by rfl⟩⟩) kk
end
end Go.Am
