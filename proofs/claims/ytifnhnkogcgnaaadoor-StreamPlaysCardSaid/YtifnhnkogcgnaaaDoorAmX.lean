/-
  An abstract machine, part X: arrays, type assertions.
-/
import Derived.Test.YtifnhnkogcgnaaaDoorAmQ
namespace Go.Am
/-- an array's length, elements, cells of an element -/
def arK (P : Program) (t : TypeId) : Option (Nat × TypeId × Nat) := match P.underlying t with
  | some (.array n e) => match P.info? e with
    | some i => some (n, e, i.size)
    | none => none
  | _ => none
theorem arK_spec {P : Program} {t e : TypeId} {len S : Nat} (h : arK P t = some (len, e, S)) : P.underlying t = some (.array len e) ∧ ∃ i, P.info? e = some i ∧ i.size = S := by
  unfold arK at h
  split at h
  · rename_i n e' hu
    split at h
    · rename_i i hi
      simp only [Option.some.injEq, Prod.mk.injEq] at h
      obtain ⟨rfl, rfl, rfl⟩ := h
      exact ⟨hu, i, hi, rfl⟩
    · cases h
  · cases h
/-- what 'build' fills: a struct, an array -/
def fldA (P : Program) (t : TypeId) : Option (List (Nat × Nat) × List Value) := match flds P t with
  | some r => some r
  | none => match arK P t, zer P t with
    | some (n, _, S), some zs => some ((List.range n).map fun i => (i * S, S), zs)
    | _, _ => none
def runeT (P : Program) (s d : TypeId) : Bool := match P.underlying s, P.underlying d with
  | some (.slice e), some .string => match P.underlying e with
    | some (.int .i32) => true
    | _ => false
  | _, _ => false
def runesOf : List Value → Option (List UInt8)
  | [] => some []
  | .int .i32 n :: vs => match runesOf vs with
    | some r => some ((Utf8.encode n).data.toList ++ r)
    | none => none
  | _ => none
theorem fill_more {f g : Nat → Option (Nat × Nat)} (h : ∀ i p, f i = some p → g i = some p) : ∀ (parts : List (Nat × Value)) (cells r : Array Value), Instr.fill f cells parts = some r → Instr.fill g cells parts = some r
  | [], cells, r, e => by simpa [Instr.fill] using e
  | (i, v) :: rest, cells, r, e => by
    simp only [Instr.fill] at e ⊢
    cases hf : f i with
    | none => simp [hf] at e
    | some p =>
      obtain ⟨off, size⟩ := p
      rw [h i _ hf]
      simp only [hf] at e ⊢
      split at e
      · cases e
      · rename_i hc
        rw [if_neg hc]
        exact fill_more h rest _ r e

section
variable {P : Program} {n : Nat} {ops : Array Oper} {l : List Oper} {L : Loc} {ob : List Ob} {kf : List Rec → Loc → List Ob → Prop} {gu : Loc}
variable {dst : Option Nat} {ty : TypeId} {pos : String} {after : Array Edge} {guard : Option (Nat × Bool)}
theorem ev_buildA {t : TypeId} {ps : List (Nat × Operand)} {avs : List (Nat × AV)} {xs : List (Operand × AV)} {pl : List (Nat × Nat)} {zs : List Value} {cells : List AV} (ht : fldA P t = some (pl, zs)) (hp : EvP L ps avs xs) (hf : fillA pl (zs.map .v) avs = some cells)
    (hg : Gd ops L guard gu) (hn : ∀ d, dst = some d → d < n)
    (kk : EvK P n ops l (updL L dst (.ag cells) []) ob (fun recs => kf (⟨dst, gu ++ uses xs, .ag cells, [], .pure⟩ :: recs))) :
    EvK P n ops (⟨dst, .build t ps.toArray, ty, pos, after, guard⟩ :: l) L ob kf := by
  unfold fldA at ht
  split at ht
  · rename_i r hr
    simp only [Option.some.injEq] at ht
    subst ht
    exact ev_build hr hp hf hg hn kk
  · split at ht
    · rename_i len e S zs' hk hz
      simp only [Option.some.injEq, Prod.mk.injEq] at ht
      obtain ⟨rfl, rfl⟩ := ht
      obtain ⟨hu, ie, hie, hS⟩ := arK_spec hk
      subst hS
      refine ev_val0 (o := ⟨dst, .build t ps.toArray, ty, pos, after, guard⟩) xs (evP_all hp) hg hn (fun m γ w a _ hr => ?_) kk
      unfold zer at hz
      split at hz
      · rename_i it hi
        cases hz0 : it.zero with
        | none => simp [hz0] at hz
        | some z =>
          simp only [hz0, Option.map_some, Option.some.injEq] at hz
          subst hz
          obtain ⟨cur', k1, k2⟩ := fill_reps (a := a) hp hr (cur := z.cells) (repVals_plain _) hf
          have k3 := fill_more (g := fun i => some (i * ie.size, ie.size)) (fun i p h => by
            simp only [List.getElem?_toArray, List.getElem?_map] at h
            cases hr : (List.range len)[i]? with
            | none => simp [hr] at h
            | some j =>
              obtain ⟨h1, h2⟩ := List.getElem?_eq_some_iff.1 hr
              simp at h2
              subst h2
              simpa [hr] using h) _ _ _ k1
          have hb : P.built t (ps.map fun p => (p.1, a.eval p.2)) = some cur' := by
            unfold Program.built
            simp only [hi, hu, hz0, hie]
            exact k3
          have := run_build w t (ps.map fun p => (p.1, a.eval p.2)).toArray cur' (by simpa using hb)
          refine ⟨.agg cur', ?_, by simp only [Rep]; exact ⟨cur'.toList, by simp, k2⟩⟩
          simp only [execOp, List.map_toArray, Sem.run_bind, this, Result.andThen_ok, Sem.run_pure]
      · cases hz
    · cases ht

theorem run_indexAr {t e : TypeId} {len S : Nat} (h : arK P t = some (len, e, S)) (w : World) (b off : Nat) (q : IntKind) (i : Nat) (hi : i < len) :
    (Instr.indexAt t (.pointer (some ⟨b, off, none⟩)) (.int q i)).run P w = .ok (.pointer (some ⟨b, off + i * S, none⟩)) w := by
  obtain ⟨hu, inf, h1, h2⟩ := arK_spec h
  have hc : (0 : Int) ≤ (i : Int) ∧ (i : Int) < (len : Int) := by omega
  simp only [Instr.indexAt, Instr.sureAddr, asIntOf, Sem.run_bind, Sem.run_pure, Result.andThen_ok, run_underlying hu]
  simp only [sizeOf, typeInfo, Sem.run_bind, run_program, Result.andThen_ok, h1, Sem.run_pure, h2, hc, and_self, if_true]
  simp [add_addr]
theorem ev_indexAr_pt {x i : Operand} {t e : TypeId} {len S p off z : Nat} {q : IntKind} (ht : arK P t = some (len, e, S)) (hx : aeval L x = some (.pt p off)) (hi : aeval L i = some (.v (.int q (.ofNat z)))) (hz : z < len)
    (hg : Gd ops L guard gu) (hn : ∀ d, dst = some d → d < n)
    (kk : EvK P n ops l (updL L dst (.pt p (off + z * S)) []) ob (fun recs => kf (⟨dst, gu ++ uses [(x, .pt p off), (i, .v (.int q (.ofNat z)))], .pt p (off + z * S), [], .pure⟩ :: recs))) :
    EvK P n ops (⟨dst, .indexAddr t x i, ty, pos, after, guard⟩ :: l) L ob kf :=
  ev_val0 (o := ⟨dst, .indexAddr t x i, ty, pos, after, guard⟩) [(x, .pt p off), (i, .v (.int q (.ofNat z)))] ⟨hx, hi, trivial⟩ hg hn (fun m γ w a _ h => by
    obtain ⟨h1, h2, _⟩ := h
    simp only [Rep] at h1 h2
    obtain ⟨b, C, g1, g2⟩ := h1
    refine ⟨.pointer (some ⟨b, off + z * S, none⟩), ?_, by simp only [Rep]; exact ⟨b, C, g1, rfl⟩⟩
    have := run_indexAr ht w b off q z hz
    simp only [execOp, g2, h2, Sem.run_bind]
    rw [show (Int.ofNat z) = ((z : Nat) : Int) from rfl, this]
    simp only [Result.andThen_ok, Sem.run_pure]) kk
theorem ev_indexAr_pf {x i : Operand} {t e : TypeId} {len S z : Nat} {cs : List AV} {q : IntKind} (ht : arK P t = some (len, e, S)) (hx : aeval L x = some (.pf cs)) (hi : aeval L i = some (.v (.int q (.ofNat z)))) (hz : z < len)
    (hg : Gd ops L guard gu) (hn : ∀ d, dst = some d → d < n)
    (kk : EvK P n ops l (updL L dst (.pf (cs.drop (z * S))) []) ob (fun recs => kf (⟨dst, gu ++ uses [(x, .pf cs), (i, .v (.int q (.ofNat z)))], .pf (cs.drop (z * S)), [], .pure⟩ :: recs))) :
    EvK P n ops (⟨dst, .indexAddr t x i, ty, pos, after, guard⟩ :: l) L ob kf :=
  ev_val0 (o := ⟨dst, .indexAddr t x i, ty, pos, after, guard⟩) [(x, .pf cs), (i, .v (.int q (.ofNat z)))] ⟨hx, hi, trivial⟩ hg hn (fun m γ w a _ h => by
    obtain ⟨h1, h2, _⟩ := h
    simp only [Rep] at h1 h2
    obtain ⟨b, off, g2, g1⟩ := h1
    refine ⟨.pointer (some ⟨b, off + z * S, none⟩), ?_, by simp only [Rep]; exact ⟨b, _, rfl, repCells_drop g1 _⟩⟩
    have := run_indexAr ht w b off q z hz
    simp only [execOp, g2, h2, Sem.run_bind]
    rw [show (Int.ofNat z) = ((z : Nat) : Int) from rfl, this]
    simp only [Result.andThen_ok, Sem.run_pure]) kk
theorem ev_indexAg {x i : Operand} {t e : TypeId} {len S S' z : Nat} {cs : List AV} {g : Bool} {q : IntKind} {r : AV} (ht : arK P t = some (len, e, S')) (he : tyk P e = some (g, S)) (hx : aeval L x = some (.ag cs)) (hi : aeval L i = some (.v (.int q (.ofNat z)))) (hz : z < len)
    (hr : (g = true ∧ z * S + S ≤ cs.length ∧ r = .ag ((cs.drop (z * S)).take S)) ∨ (g = false ∧ cs[z * S]? = some r))
    (hg : Gd ops L guard gu) (hn : ∀ d, dst = some d → d < n)
    (kk : EvK P n ops l (updL L dst r []) ob (fun recs => kf (⟨dst, gu ++ uses [(x, .ag cs), (i, .v (.int q (.ofNat z)))], r, [], .pure⟩ :: recs))) :
    EvK P n ops (⟨dst, .index t x i, ty, pos, after, guard⟩ :: l) L ob kf :=
  ev_val0 (o := ⟨dst, .index t x i, ty, pos, after, guard⟩) [(x, .ag cs), (i, .v (.int q (.ofNat z)))] ⟨hx, hi, trivial⟩ hg hn (fun m γ w a _ h => by
    obtain ⟨h1, h2, _⟩ := h
    simp only [Rep] at h1 h2
    obtain ⟨vs, g2, g1⟩ := h1
    obtain ⟨hu, inf, k1, k2⟩ := arK_spec ht
    have hc : (0 : Int) ≤ Int.ofNat z ∧ Int.ofNat z < (len : Int) := ⟨Int.natCast_nonneg z, Int.ofNat_lt.2 hz⟩
    have hsz := run_sizeOf (w := w) he
    have hag := run_isAgg (w := w) he
    have hl := repVals_length g1
    have hidx : (Instr.index t (.agg vs.toArray) (.int q (Int.ofNat z))).run P w = (part e vs.toArray (z * S)).run P w := by
      simp only [Instr.index, asIntOf, Sem.run_bind, Sem.run_pure, Result.andThen_ok, run_underlying hu, hc, and_self, if_true, hsz]
      rfl
    have hpart : ∃ y, (part e vs.toArray (z * S)).run P w = .ok y w ∧ Rep m γ r y := by
      rcases hr with ⟨rfl, hle, rfl⟩ | ⟨rfl, hcell⟩
      · refine ⟨.agg ((vs.drop (z * S)).take S).toArray, ?_, by simp only [Rep]; exact ⟨_, rfl, repVals_take (repVals_drop g1 _) _⟩⟩
        simp only [part, Sem.run_bind, hag, Result.andThen_ok, if_true, hsz, Sem.run_pure]
        congr 2
        apply Array.ext'
        simp [List.extract_eq_take_drop]
      · obtain ⟨y, hy, hry⟩ := repVals_get g1 _ _ hcell
        refine ⟨y, ?_, hry⟩
        simp only [part, Sem.run_bind, hag, Result.andThen_ok, Bool.false_eq_true, if_false, List.getElem?_toArray, hy, Sem.run_pure]
    obtain ⟨y, hy, hry⟩ := hpart
    refine ⟨y, ?_, hry⟩
    simp only [execOp, g2, h2, Sem.run_bind, hidx, hy, Result.andThen_ok, Sem.run_pure]) kk

theorem notIface {t : TypeId} (h : isIfaceT P t = some false) : ∃ D, P.underlying t = some D ∧ ∀ ms, D ≠ .interface ms := by
  unfold isIfaceT at h
  cases hu : P.underlying t with
  | none => simp [hu] at h
  | some D =>
    refine ⟨D, rfl, fun ms e => ?_⟩
    subst e
    simp [hu] at h
theorem run_assert_yes {at' : TypeId} {v : Value} (h : isIfaceT P at' = some false) (xt : TypeId) (ok : Bool) (w : World) : (Instr.typeAssert (.iface at' v) xt at' ok).run P w = .ok (if ok then .tuple #[v, .bool true] else v) w := by
  obtain ⟨D, hu, hD⟩ := notIface h
  cases D <;> first | exact absurd rfl (hD _) | simp [Instr.typeAssert, run_underlying hu]
theorem run_assert_no {at' t : TypeId} {v z : Value} (h : isIfaceT P at' = some false) (hz : plainS P (zeroValue at') = some z) (hne : t ≠ at') (xt : TypeId) (w : World) : (Instr.typeAssert (.iface t v) xt at' true).run P w = .ok (.tuple #[z, .bool false]) w := by
  obtain ⟨D, hu, hD⟩ := notIface h
  have hz' := plainS_run hz w
  cases D <;> first | exact absurd rfl (hD _) | simp [Instr.typeAssert, run_underlying hu, hne, hz']
theorem run_assert_nil {at' : TypeId} {z : Value} (h : isIfaceT P at' = some false) (hz : plainS P (zeroValue at') = some z) (xt : TypeId) (w : World) : (Instr.typeAssert .nilIface xt at' true).run P w = .ok (.tuple #[z, .bool false]) w := by
  obtain ⟨D, hu, hD⟩ := notIface h
  have hz' := plainS_run hz w
  cases D <;> first | exact absurd rfl (hD _) | simp [Instr.typeAssert, run_underlying hu, hz']
theorem ev_assert {x : Operand} {xt at' : TypeId} {ok : Bool} {av r : AV} (h : isIfaceT P at' = some false) (hx : aeval L x = some av)
    (hr : (∃ y, av = .ifc at' y ∧ r = cond ok (.tu [y, .v (.bool true)]) y) ∨ (∃ t y z, av = .ifc t y ∧ t ≠ at' ∧ ok = true ∧ plainS P (zeroValue at') = some z ∧ r = .tu [ofV z, .v (.bool false)]) ∨ (∃ z, av = .v .nilIface ∧ ok = true ∧ plainS P (zeroValue at') = some z ∧ r = .tu [ofV z, .v (.bool false)]))
    (hg : Gd ops L guard gu) (hn : ∀ d, dst = some d → d < n)
    (kk : EvK P n ops l (updL L dst r []) ob (fun recs => kf (⟨dst, gu ++ uses [(x, av)], r, [], .pure⟩ :: recs))) :
    EvK P n ops (⟨dst, .typeAssert x xt at' ok, ty, pos, after, guard⟩ :: l) L ob kf :=
  ev_val0 (o := ⟨dst, .typeAssert x xt at' ok, ty, pos, after, guard⟩) [(x, av)] ⟨hx, trivial⟩ hg hn (fun m γ w a _ hq => by
    have h1 := hq.1
    rcases hr with ⟨y, rfl, rfl⟩ | ⟨t, y, z, rfl, hne, rfl, hz, rfl⟩ | ⟨z, rfl, rfl, hz, rfl⟩
    · simp only [Rep] at h1
      obtain ⟨v, e, hv⟩ := h1
      refine ⟨if ok then .tuple #[v, .bool true] else v, ?_, ?_⟩
      · simp only [execOp, e, Sem.run_bind, run_assert_yes h, Result.andThen_ok, Sem.run_pure]
      · cases ok with
        | true => simp only [cond_true, if_true, Rep]; exact ⟨[v, .bool true], rfl, by simp only [RepVals, Rep]; exact ⟨_, _, rfl, hv, _, _, rfl, rfl, rfl⟩⟩
        | false => simpa using hv
    · simp only [Rep] at h1
      obtain ⟨v, e, hv⟩ := h1
      refine ⟨.tuple #[z, .bool false], ?_, by simp only [Rep]; exact ⟨[z, .bool false], rfl, by simp only [RepVals, Rep]; exact ⟨_, _, rfl, rep_ofV z, _, _, rfl, rfl, rfl⟩⟩⟩
      simp only [execOp, e, Sem.run_bind, run_assert_no h hz hne, Result.andThen_ok, Sem.run_pure]
    · simp only [Rep] at h1
      refine ⟨.tuple #[z, .bool false], ?_, by simp only [Rep]; exact ⟨[z, .bool false], rfl, by simp only [RepVals, Rep]; exact ⟨_, _, rfl, rep_ofV z, _, _, rfl, rfl, rfl⟩⟩⟩
      simp only [execOp, h1, Sem.run_bind, run_assert_nil h hz, Result.andThen_ok, Sem.run_pure]) kk
end
end Go.Am
