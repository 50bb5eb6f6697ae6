/-
  An abstract machine, part P: maps with plain keys.
-/
import Derived.Test.YtobehholoenaiaaGreatDoorAmO
import Derived.DeepKeys3
namespace Go.Am
open Go.MapKept

/-- a key's place among a map's keys -/
def kfind (d : TypeDesc) (k : Value) : List Value → Option (Option Nat)
  | [] => some none
  | q :: qs => match Instr.sameNow d k q with
    | some true => some (some 0)
    | some false => match kfind d k qs with
      | some (some i) => some (some (i + 1))
      | r => r
    | none => none
theorem kfind_find {d : TypeDesc} {k : Value} : ∀ {es : List MapEntry} {r : Option Nat} (i : Nat), kfind d k (es.map (·.key)) = some r →
    Instr.findNow d k es i = some (r.bind fun j => (es[j]?).map fun e => (i + j, e.val)) ∧ (∀ j, r = some j → ∃ e, es[j]? = some e ∧ Instr.sameNow d k e.key = some true)
  | [], r, i, h => by simp only [List.map_nil, kfind, Option.some.injEq] at h; subst h; simp [Instr.findNow]
  | e :: es, r, i, h => by
    simp only [List.map_cons, kfind] at h
    cases hs : Instr.sameNow d k e.key with
    | none => simp [hs] at h
    | some b =>
      cases b with
      | true =>
        simp only [hs, Option.some.injEq] at h
        subst h
        exact ⟨by simp [Instr.findNow, hs], fun j hj => by cases hj; exact ⟨e, rfl, hs⟩⟩
      | false =>
        simp only [hs] at h
        cases hk : kfind d k (es.map (·.key)) with
        | none => simp [hk] at h
        | some q =>
          obtain ⟨h1, h2⟩ := kfind_find (i + 1) hk
          cases q with
          | none =>
            simp only [hk, Option.some.injEq] at h
            subst h
            exact ⟨by simpa [Instr.findNow, hs] using h1, fun j hj => by cases hj⟩
          | some q =>
            simp only [hk, Option.some.injEq] at h
            subst h
            refine ⟨?_, fun j hj => ?_⟩
            · simp only [Instr.findNow, hs, h1, Option.bind_some, List.getElem?_cons_succ]
              congr 2
              funext e
              simp; omega
            · cases hj
              obtain ⟨e', g1, g2⟩ := h2 q rfl
              exact ⟨e', by simpa using g1, g2⟩
theorem sameNow_eq {d : TypeDesc} {a b : Value} (h : Instr.sameNow d a b = some true) (ha : IsKey d a) (hb : IsKey d b) : a = b := by
  obtain ⟨r, h1, h2⟩ := sameNow_of_keys ha hb
  rw [h] at h1
  cases h1
  exact h2.1 rfl
def isKeyB : TypeDesc → Value → Bool
  | .int k, .int k' _ => decide (k = k')
  | .string, .string _ => true
  | .bool, .bool _ => true
  | _, _ => false
theorem isKeyB_spec {d : TypeDesc} {v : Value} (h : isKeyB d v = true) : IsKey d v := by
  cases d <;> cases v <;> simp_all [isKeyB, IsKey]

section
variable {P : Program} {n : Nat} {ops : Array Oper} {l : List Oper} {L : Loc} {ob : List Ob} {kf : List Rec → Loc → List Ob → Prop} {gu : Loc}
variable {dst : Option Nat} {ty : TypeId} {pos : String} {after : Array Edge} {guard : Option (Nat × Bool)}
theorem ev_makeMap {t : TypeId} (hg : Gd ops L guard gu) (hn : ∀ d, dst = some d → d < n)
    (kk : EvK P n ops l (updL L dst (.mp ob.length) []) (ob ++ [.mp [] []]) (fun recs => kf (⟨dst, gu ++ uses [], .mp ob.length, [], .write⟩ :: recs))) :
    EvK P n ops (⟨dst, .makeMap t none, ty, pos, after, guard⟩ :: l) L ob kf :=
  ev_any2 (o := ⟨dst, .makeMap t none, ty, pos, after, guard⟩) [] [] trivial hg hn (fun m γ w a K Q hi _ hK => by
    obtain ⟨k1, k2⟩ := inv_new hi (.map #[] 0) 0 (.mp [] []) ⟨w.heap.size, #[], 0, by simp [addG], heap_alloc_new w _, rfl, by simp [RepVals], fun off => mem_fresh hi (Nat.le_refl _) off⟩
    refine upon_value' (v := .map (some w.heap.size)) (w' := w.alloc (.map #[] 0)) ?_ (hK m _ _ _ k2 (le_addG hi _ _) k1 ?_)
    · simp [execOp, Instr.makeMap]
    · simp only [Rep]; exact ⟨w.heap.size, 0, by simp [addG], rfl⟩) kk

/-- what a map holds behind m[k] = v -/
def mput (keys : List Value) (vals : List AV) (k : Value) (v : AV) : Option Nat → Ob
  | some i => .mp keys (vals.set i v)
  | none => .mp (keys ++ [k]) (vals ++ [v])
def mputO (es : Array MapEntry) (clock : Nat) (k v : Value) : Option Nat → Obj
  | some j => .map (es.modify j fun e => { e with key := k, val := v }) clock
  | none => .map (es.push { key := k, val := v, born := clock }) (clock + 1)
theorem run_put {t kt vt : TypeId} {d : TypeDesc} {w : World} {r : Nat} {es : Array MapEntry} {clock : Nat} {k v : Value} {i : Option Nat} (ht : P.underlying t = some (.map kt vt)) (hd : P.underlying kt = some d) (hb : w.heap[r]? = some (.map es clock)) (hk : isKeyB d k = true)
    (hks : ∀ q ∈ es.toList.map (·.key), isKeyB d q = true) (hf : kfind d k (es.toList.map (·.key)) = some i) :
    (Instr.mapUpdate t (.map (some r)) k v).run P w = .ok () { w with heap := w.heap.setIfInBounds r (mputO es clock k v i) } := by
  obtain ⟨h1, h2⟩ := kfind_find 0 hf
  have hfk := run_findKey (P := P) (w := w) hd h1
  have hck := run_checkKey (P := P) (w := w) hd (isKeyB_spec hk) false 9999
  cases i with
  | none =>
    simp only [Option.bind_none] at hfk
    simp [Instr.mapUpdate, run_underlying ht, Go.MapKept.run_getObj_map hb, hck, hfk, Go.MapKept.run_setObj_map _ hb, mputO]
  | some j =>
    obtain ⟨e, g1, g2⟩ := h2 j rfl
    have hek : e.key = k := (sameNow_eq g2 (isKeyB_spec hk) (isKeyB_spec (hks _ (List.mem_map.2 ⟨e, List.mem_of_getElem? g1, rfl⟩)))).symm
    simp only [Option.bind_some, g1, Option.map_some, Nat.zero_add] at hfk
    have g1' : es[j]? = some e := by simpa using g1
    have hst := run_keyThatStays (P := P) (w := w) (isKeyB_spec hk)
    simp [Instr.mapUpdate, run_underlying ht, Go.MapKept.run_getObj_map hb, hck, hfk, Go.MapKept.run_setObj_map _ hb, g1', hek, hst, mputO]
def mapT (P : Program) (t : TypeId) : Option (TypeId × TypeId × TypeDesc) := match P.underlying t with
  | some (.map kt vt) => match P.underlying kt with
    | some d => some (kt, vt, d)
    | none => none
  | _ => none
theorem mapT_spec {t kt vt : TypeId} {d : TypeDesc} (h : mapT P t = some (kt, vt, d)) : P.underlying t = some (.map kt vt) ∧ P.underlying kt = some d := by
  unfold mapT at h
  cases hu : P.underlying t with
  | none => simp [hu] at h
  | some D =>
    cases D with
    | map a b =>
      simp only [hu] at h
      cases hk : P.underlying a with
      | none => simp [hk] at h
      | some e =>
        simp only [hk, Option.some.injEq, Prod.mk.injEq] at h
        obtain ⟨rfl, rfl, rfl⟩ := h
        exact ⟨rfl, hk⟩
    | _ => simp [hu] at h
theorem modify_vals (es : Array MapEntry) (j : Nat) (k v : Value) (hk : ∀ e, es.toList[j]? = some e → e.key = k) :
    (es.modify j fun e => { e with key := k, val := v }).toList.map (·.key) = es.toList.map (·.key) ∧ (es.modify j fun e => { e with key := k, val := v }).toList.map (·.val) = (es.toList.map (·.val)).set j v := by
  constructor
  · refine modify_keys j _ fun e he => (hk e (by simpa using he)).symm
  · apply List.ext_getElem?
    intro i
    by_cases hij : j = i
    · subst hij
      simp only [List.getElem?_map, Array.getElem?_toList, Array.getElem?_modify, if_true, List.getElem?_set, List.length_map, Array.length_toList]
      by_cases hlt : j < es.size
      · simp [hlt]
      · simp [hlt]
    · simp only [List.getElem?_map, Array.getElem?_toList, Array.getElem?_modify, hij, if_false, List.getElem?_set]
/-- m[k] = v -/
theorem ev_mapPut {op : Op} {x y z : Operand} {t kt vt : TypeId} {d : TypeDesc} {o : Nat} {keys : List Value} {vals : List AV} {k : Value} {av : AV} {i : Option Nat} (hop : op = .mapUpdate t x y z ∨ op = .insert t x y z) (ht : mapT P t = some (kt, vt, d)) (hx : aeval L x = some (.mp o)) (hy : aeval L y = some (.v k)) (hz : aeval L z = some av)
    (ho : ob[o]? = some (.mp keys vals)) (hk : isKeyB d k = true) (hks : keys.all (isKeyB d) = true) (hf : kfind d k keys = some i) (hg : Gd ops L guard gu) (hn : ∀ d, dst = some d → d < n)
    (kk : EvK P n ops l (updL L dst .any []) (ob.set o (mput keys vals k av i)) (fun recs => kf (⟨dst, gu ++ uses [(x, .mp o), (y, .v k), (z, av)], .any, [], .st o (.mp keys vals) (mput keys vals k av i)⟩ :: recs))) :
    EvK P n ops (⟨dst, op, ty, pos, after, guard⟩ :: l) L ob kf := by
  refine ev_st (o := ⟨dst, op, ty, pos, after, guard⟩) ho [(x, .mp o), (y, .v k), (z, av)] ⟨hx, hy, hz, trivial⟩ hg hn (fun ob m γ w a K Q hX hi h hK => ?_) kk
  obtain ⟨r1, r2, r3, _⟩ := h
  simp only [Rep] at r1 r2
  obtain ⟨b, C, g1, e1⟩ := r1
  obtain ⟨hu, hd⟩ := mapT_spec ht
  obtain ⟨b', es, clock, q1, q2, q3, q4, q5⟩ := hi.obj o _ hX
  rw [g1] at q1; cases q1
  subst q3
  have hks' : ∀ q ∈ es.toList.map (·.key), isKeyB d q = true := fun q hq => List.all_eq_true.1 hks q hq
  have hrun := run_put (v := a.eval z) hu hd q2 hk hks' hf
  have hlt : b < w.heap.size := (Array.getElem?_eq_some_iff.1 q2).1
  obtain ⟨i1, i2, i3⟩ := inv_set hi (X' := mput (es.toList.map (·.key)) vals k av i) hX (by simp) g1 q5 (w' := { w with heap := w.heap.setIfInBounds b (mputO es clock k (a.eval z) i) })
    (fun q hq => (heap_set q2).2 q hq) (by simp) rfl rfl rfl [] (by
      cases i with
      | none =>
        refine ⟨b, es.push { key := k, val := a.eval z, born := clock }, clock + 1, g1, (heap_set q2).1, by simp, ?_, q5⟩
        simp only [Array.toList_push, List.map_append, List.map_cons, List.map_nil]
        exact repVals_append q4 (by simp only [RepVals]; exact ⟨_, [], rfl, r3, rfl⟩)
      | some j =>
        obtain ⟨_, h2⟩ := kfind_find 0 hf
        obtain ⟨e, p1, p2⟩ := h2 j rfl
        have hek : ∀ e', es.toList[j]? = some e' → e'.key = k := by
          intro e' he'
          rw [p1] at he'; cases he'
          exact (sameNow_eq p2 (isKeyB_spec hk) (isKeyB_spec (hks' _ (List.mem_map.2 ⟨e, List.mem_of_getElem? p1, rfl⟩)))).symm
        obtain ⟨v1, v2⟩ := modify_vals es j k (a.eval z) hek
        exact ⟨b, es.modify j fun e => { e with key := k, val := a.eval z }, clock, g1, (heap_set q2).1, v1, by rw [v2]; exact repVals_set q4 j r3, q5⟩)
  refine upon_skip' (w' := _) ?_ (hK m γ _ undef i3 (Le.refl _ _ _) i2 (by simp [Rep]))
  rcases hop with rfl | rfl
  · simp only [execOp, e1, r2, Sem.run_bind, hrun, Result.andThen_ok, Sem.run_pure]
  · simp only [execOp, e1, r2, Sem.run_bind, hrun, Result.andThen_ok, Sem.run_pure]

/-- what m[k] gives -/
def mgetA (vals : List AV) (z : AV) : Option Nat → Option AV
  | some i => vals[i]?
  | none => some z
def okA (i : Option Nat) : Bool := match i with
  | some _ => true
  | none => false
theorem ev_mapGet {x y : Operand} {t kt vt : TypeId} {d : TypeDesc} {o : Nat} {keys : List Value} {vals : List AV} {k z : Value} {av : AV} {i : Option Nat} {ok : Bool} (ht : mapT P t = some (kt, vt, d)) (hz : plainS P (zeroValue vt) = some z) (hx : aeval L x = some (.mp o)) (hy : aeval L y = some (.v k))
    (ho : ob[o]? = some (.mp keys vals)) (hk : isKeyB d k = true) (hf : kfind d k keys = some i) (hv : mgetA vals (ofV z) i = some av) (hg : Gd ops L guard gu) (hn : ∀ d, dst = some d → d < n)
    (kk : EvK P n ops l (updL L dst (cond ok (.tu [av, .v (.bool (okA i))]) av) []) ob (fun recs => kf (⟨dst, gu ++ uses [(x, .mp o), (y, .v k)], cond ok (.tu [av, .v (.bool (okA i))]) av, [], .rd o (.mp keys vals)⟩ :: recs))) :
    EvK P n ops (⟨dst, .lookup t x y ok, ty, pos, after, guard⟩ :: l) L ob kf := by
  refine ev_rd (o := ⟨dst, .lookup t x y ok, ty, pos, after, guard⟩) ho [(x, .mp o), (y, .v k)] ⟨hx, hy, trivial⟩ hg hn (fun ob m γ w a hX hi h => ?_) kk
  obtain ⟨r1, r2, _⟩ := h
  simp only [Rep] at r1 r2
  obtain ⟨b, C, g1, e1⟩ := r1
  obtain ⟨hu, hd⟩ := mapT_spec ht
  obtain ⟨b', es, clock, q1, q2, q3, q4, q5⟩ := hi.obj o _ hX
  rw [g1] at q1; cases q1
  subst q3
  obtain ⟨h1, h2⟩ := kfind_find 0 hf
  have hfk := run_findKey (P := P) (w := w) hd h1
  have hck := run_checkKey (P := P) (w := w) hd (isKeyB_spec hk) es.isEmpty 9999
  have hzz := plainS_run hz w
  obtain ⟨v, hv1, hv2⟩ : ∃ v, (Instr.lookup t (.map (some b)) k ok).run P w = .ok (if ok then .tuple #[v, .bool (okA i)] else v) w ∧ Rep m γ av v := by
    cases i with
    | none =>
      simp only [mgetA, Option.some.injEq] at hv
      subst hv
      simp only [Option.bind_none] at hfk
      exact ⟨z, by cases ok <;> simp [Instr.lookup, run_underlying hu, Go.MapKept.run_getObj_map q2, hck, hfk, hzz, okA], rep_ofV z⟩
    | some j =>
      simp only [mgetA] at hv
      obtain ⟨e, p1, p2⟩ := h2 j rfl
      obtain ⟨u, hu2, hr2⟩ := repVals_get q4 j av hv
      rw [List.getElem?_map, p1] at hu2
      simp only [Option.map_some, Option.some.injEq] at hu2
      subst hu2
      simp only [Option.bind_some, p1, Option.map_some, Nat.zero_add] at hfk
      exact ⟨e.val, by cases ok <;> simp [Instr.lookup, run_underlying hu, Go.MapKept.run_getObj_map q2, hck, hfk, okA], hr2⟩
  refine ⟨if ok then .tuple #[v, .bool (okA i)] else v, by simp only [execOp, e1, r2, Sem.run_bind, hv1, Result.andThen_ok, Sem.run_pure], ?_⟩
  cases ok with
  | true => simp only [cond_true, if_true, Rep, RepVals]; exact ⟨_, rfl, v, [.bool (okA i)], rfl, hv2, _, [], rfl, rfl, rfl⟩
  | false => simpa using hv2
end

/-! ### Maps with keys that are arrays or structs -/
def intB : Int → Int → Bool
  | .ofNat m, .ofNat n => Nat.beq m n
  | .negSucc m, .negSucc n => Nat.beq m n
  | _, _ => false
theorem intB_eq (a b : Int) : intB a b = decide (a = b) := by
  cases a <;> cases b <;> simp only [intB]
  · rename_i m n; rw [beq_dec]; exact decide_eq_decide.2 ⟨fun h => by rw [h], fun h => by cases h; rfl⟩
  · simp
  · simp
  · rename_i m n; rw [beq_dec]; exact decide_eq_decide.2 ⟨fun h => by rw [h], fun h => by cases h; rfl⟩
def kindB (a b : IntKind) : Bool := Nat.beq a.ctorIdx b.ctorIdx
theorem kindB_eq (a b : IntKind) : kindB a b = decide (a = b) := by cases a <;> cases b <;> rfl
def bytesB : List UInt8 → List UInt8 → Bool
  | [], [] => true
  | a :: x, b :: y => cond (Nat.beq a.toNat b.toNat) (bytesB x y) false
  | _, _ => false
theorem bytesB_eq : ∀ x y : List UInt8, bytesB x y = decide (x = y)
  | [], [] => rfl
  | [], _ :: _ => by simp [bytesB]
  | _ :: _, [] => by simp [bytesB]
  | a :: x, b :: y => by
    simp only [bytesB, bytesB_eq x y, beq_dec]
    have : (a.toNat = b.toNat) ↔ a = b := UInt8.toNat_inj
    by_cases h : a = b
    · subst h; simp
    · have h' : ¬ a.toNat = b.toNat := fun e => h (this.1 e)
      simp [h, h']
def veq1 : Value → Value → Option Bool
  | .int k a, .int j b => some (kindB k j && intB a b)
  | .string a, .string b => some (bytesB a.data.toList b.data.toList)
  | _, _ => none
theorem veq1_spec {a b : Value} {r : Bool} (h : veq1 a b = some r) : r = true ↔ a = b := by
  unfold veq1 at h
  split at h
  · cases h
    rw [kindB_eq, intB_eq]
    simp
  · rename_i x y
    cases h
    rw [bytesB_eq]
    simp only [decide_eq_true_eq, Value.string.injEq]
    constructor
    · intro e
      cases x; cases y
      congr 1
      exact Array.toList_inj.1 e
    · intro e; rw [e]
  · cases h
def veqL : List Value → List Value → Option Bool
  | [], [] => some true
  | a :: x, b :: y => match veq1 a b with
    | some true => veqL x y
    | some false => some false
    | none => none
  | _, _ => some false
theorem veqL_spec : ∀ {x y : List Value} {r : Bool}, veqL x y = some r → (r = true ↔ x = y)
  | [], [], r, h => by cases h; simp
  | [], _ :: _, r, h => by cases h; simp
  | _ :: _, [], r, h => by cases h; simp
  | a :: x, b :: y, r, h => by
    simp only [veqL] at h
    split at h
    · rename_i h1
      have := (veq1_spec h1).1 rfl
      subst this
      rw [veqL_spec h]; simp
    · rename_i h1
      cases h
      have : a ≠ b := fun e => by have := (veq1_spec h1).2 e; cases this
      simp [this]
    · cases h
def veq : Value → Value → Option Bool
  | .agg a, .agg b => veqL a.toList b.toList
  | _, _ => none
theorem veq_spec {a b : Value} {r : Bool} (h : veq a b = some r) : r = true ↔ a = b := by
  unfold veq at h
  split at h
  · rw [veqL_spec h]
    constructor
    · intro e; rw [Array.toList_inj.1 e]
    · intro e; cases e; rfl
  · cases h
/-- a key's place, if it stands but once -/
def kfindV (k : Value) : List Value → Option (Option Nat)
  | [] => some none
  | q :: qs => match veq k q, kfindV k qs with
    | some true, some none => some (some 0)
    | some false, some none => some none
    | some false, some (some i) => some (some (i + 1))
    | _, _ => none
theorem kfindV_spec {k : Value} : ∀ {keys : List Value} {i : Option Nat}, kfindV k keys = some i → (∀ j, keys[j]? = some k ↔ i = some j)
  | [], i, h => by cases h; simp
  | q :: qs, i, h => by
    simp only [kfindV] at h
    split at h
    · rename_i h1 h2
      cases h
      have e := (veq_spec h1).1 rfl
      subst e
      have ih := kfindV_spec h2
      intro j
      cases j with
      | zero => simp
      | succ j => simpa using ih j
    · rename_i h1 h2
      cases h
      have e : k ≠ q := fun e => by have := (veq_spec h1).2 e; cases this
      have ih := kfindV_spec h2
      intro j
      cases j with
      | zero => simp [Ne.symm e]
      | succ j => simpa using ih j
    · rename_i n h1 h2
      cases h
      have e : k ≠ q := fun e => by have := (veq_spec h1).2 e; cases this
      have ih := kfindV_spec h2
      intro j
      cases j with
      | zero => simp [Ne.symm e]
      | succ j => simpa using ih j
    · cases h
def wideK (P : Program) (kt : TypeId) : Bool := match P.underlying kt with
  | some (.array _ _) => true
  | some (.struct _) => true
  | _ => false
def lawB (P : Program) (kt : TypeId) : Bool := wideK P kt && (P.keyTypeAt 8 kt && P.tiled 8 kt)
theorem lawB_spec {P : Program} {kt : TypeId} (h : lawB P kt = true) : WideMaps.KeyLaw P kt := by
  simp only [lawB, Bool.and_eq_true] at h
  refine deep_law (m := 8) (by omega) h.2.1 h.2.2 ?_
  have h1 := h.1
  unfold wideK at h1
  cases hu : P.underlying kt with
  | none => rw [hu] at h1; cases h1
  | some d => rw [hu] at h1; cases d <;> first | rfl | cases h1
def keyW (P : Program) (kt : TypeId) (v : Value) : Bool := (keyOf P kt v).isSome
theorem keyW_spec {P : Program} {kt : TypeId} {v : Value} (h : keyW P kt v = true) : ∃ l, keyOf P kt v = some l := Option.isSome_iff_exists.1 h
section
variable {P : Program} {n : Nat} {ops : Array Oper} {l : List Oper} {L : Loc} {ob : List Ob} {kf : List Rec → Loc → List Ob → Prop} {gu : Loc}
variable {dst : Option Nat} {ty : TypeId} {pos : String} {after : Array Edge} {guard : Option (Nat × Bool)}
theorem find_wide {kt : TypeId} (hl : WideMaps.KeyLaw P kt) {w : World} {es : List MapEntry} {k : Value} {i : Option Nat} (hk : keyW P kt k = true) (hks : ∀ q ∈ es.map (·.key), keyW P kt q = true) (hf : kfindV k (es.map (·.key)) = some i) :
    (Instr.findKey kt k es).run P w = .ok (i.bind fun j => (es[j]?).map fun e => (j, e.val)) w ∧ ∀ j, i = some j → ∃ e, es[j]? = some e ∧ e.key = k := by
  obtain ⟨lx, hlx⟩ := keyW_spec hk
  have hs := kfindV_spec hf
  have hall : ∀ e ∈ es, ∃ l, keyOf P kt e.key = some l := fun e he => keyW_spec (hks _ (List.mem_map.2 ⟨e, he, rfl⟩))
  have hex : ∀ j, i = some j → ∃ e, es[j]? = some e ∧ e.key = k := fun j hj => by
    have := (hs j).2 hj
    rw [List.getElem?_map] at this
    cases he : es[j]? with
    | none => rw [he] at this; cases this
    | some e => rw [he] at this; simp at this; exact ⟨e, rfl, this⟩
  refine ⟨?_, hex⟩
  rcases hl.find w hlx es hall with ⟨h1, h2⟩ | ⟨j, e, h1, h2, h3⟩
  · cases i with
    | none => exact h1
    | some j =>
      obtain ⟨e, p1, p2⟩ := hex j rfl
      exact absurd p2 (h2 e (List.mem_of_getElem? p1))
  · have hj : i = some j := (hs j).1 (by rw [List.getElem?_map, h2]; simp [h3])
    subst hj
    rw [h1, Option.bind_some, h2]
    rfl
theorem run_putW {t kt vt : TypeId} {w : World} {r : Nat} {es : Array MapEntry} {clock : Nat} {k v : Value} {i : Option Nat} (ht : P.underlying t = some (.map kt vt)) (hl : WideMaps.KeyLaw P kt) (hb : w.heap[r]? = some (.map es clock)) (hk : keyW P kt k = true)
    (hks : ∀ q ∈ es.toList.map (·.key), keyW P kt q = true) (hf : kfindV k (es.toList.map (·.key)) = some i) :
    (Instr.mapUpdate t (.map (some r)) k v).run P w = .ok () { w with heap := w.heap.setIfInBounds r (mputO es clock k v i) } := by
  obtain ⟨hfk, h2⟩ := find_wide hl (w := w) hk hks hf
  obtain ⟨lx, hlx⟩ := keyW_spec hk
  have hck := hl.check w false hlx
  cases i with
  | none =>
    simp only [Option.bind_none] at hfk
    simp [Instr.mapUpdate, run_underlying ht, Go.MapKept.run_getObj_map hb, hck, hfk, Go.MapKept.run_setObj_map _ hb, mputO]
  | some j =>
    obtain ⟨e, g1, hek⟩ := h2 j rfl
    simp only [Option.bind_some, g1, Option.map_some] at hfk
    have g1' : es[j]? = some e := by simpa using g1
    have hst := hl.stays w hlx
    simp [Instr.mapUpdate, run_underlying ht, Go.MapKept.run_getObj_map hb, hck, hfk, Go.MapKept.run_setObj_map _ hb, g1', hek, hst, mputO]
/-- m[k] = v -/
theorem ev_mapPutW {op : Op} {x y z : Operand} {t kt vt : TypeId} {d : TypeDesc} {o : Nat} {keys : List Value} {vals : List AV} {k : Value} {avk av : AV} {i : Option Nat} (hop : op = .mapUpdate t x y z ∨ op = .insert t x y z) (ht : mapT P t = some (kt, vt, d)) (hx : aeval L x = some (.mp o)) (hy : aeval L y = some avk) (hpk : plainV avk = some k) (hz : aeval L z = some av)
    (ho : ob[o]? = some (.mp keys vals)) (hlaw : lawB P kt = true) (hk : keyW P kt k = true) (hks : keys.all (keyW P kt) = true) (hf : kfindV k keys = some i) (hg : Gd ops L guard gu) (hn : ∀ d, dst = some d → d < n)
    (kk : EvK P n ops l (updL L dst .any []) (ob.set o (mput keys vals k av i)) (fun recs => kf (⟨dst, gu ++ uses [(x, .mp o), (y, avk), (z, av)], .any, [], .st o (.mp keys vals) (mput keys vals k av i)⟩ :: recs))) :
    EvK P n ops (⟨dst, op, ty, pos, after, guard⟩ :: l) L ob kf := by
  refine ev_st (o := ⟨dst, op, ty, pos, after, guard⟩) ho [(x, .mp o), (y, avk), (z, av)] ⟨hx, hy, hz, trivial⟩ hg hn (fun ob m γ w a K Q hX hi h hK => ?_) kk
  obtain ⟨r1, r2, r3, _⟩ := h
  have r2 := plainV_rep hpk r2
  simp only [Rep] at r1
  obtain ⟨b, C, g1, e1⟩ := r1
  obtain ⟨hu, hd⟩ := mapT_spec ht
  obtain ⟨b', es, clock, q1, q2, q3, q4, q5⟩ := hi.obj o _ hX
  rw [g1] at q1; cases q1
  subst q3
  have hks' : ∀ q ∈ es.toList.map (·.key), keyW P kt q = true := fun q hq => List.all_eq_true.1 hks q hq
  have hrun := run_putW (v := a.eval z) hu (lawB_spec hlaw) q2 hk hks' hf
  have hlt : b < w.heap.size := (Array.getElem?_eq_some_iff.1 q2).1
  obtain ⟨i1, i2, i3⟩ := inv_set hi (X' := mput (es.toList.map (·.key)) vals k av i) hX (by simp) g1 q5 (w' := { w with heap := w.heap.setIfInBounds b (mputO es clock k (a.eval z) i) })
    (fun q hq => (heap_set q2).2 q hq) (by simp) rfl rfl rfl [] (by
      cases i with
      | none =>
        refine ⟨b, es.push { key := k, val := a.eval z, born := clock }, clock + 1, g1, (heap_set q2).1, by simp, ?_, q5⟩
        simp only [Array.toList_push, List.map_append, List.map_cons, List.map_nil]
        exact repVals_append q4 (by simp only [RepVals]; exact ⟨_, [], rfl, r3, rfl⟩)
      | some j =>
        obtain ⟨e, p1, p2⟩ := (find_wide (lawB_spec hlaw) (w := w) hk hks' hf).2 j rfl
        have hek : ∀ e', es.toList[j]? = some e' → e'.key = k := by
          intro e' he'
          rw [p1] at he'; cases he'
          exact p2
        obtain ⟨v1, v2⟩ := modify_vals es j k (a.eval z) hek
        exact ⟨b, es.modify j fun e => { e with key := k, val := a.eval z }, clock, g1, (heap_set q2).1, v1, by rw [v2]; exact repVals_set q4 j r3, q5⟩)
  refine upon_skip' (w' := _) ?_ (hK m γ _ undef i3 (Le.refl _ _ _) i2 (by simp [Rep]))
  rcases hop with rfl | rfl
  · simp only [execOp, e1, r2, Sem.run_bind, hrun, Result.andThen_ok, Sem.run_pure]
  · simp only [execOp, e1, r2, Sem.run_bind, hrun, Result.andThen_ok, Sem.run_pure]
theorem ev_mapGetW {x y : Operand} {t kt vt : TypeId} {d : TypeDesc} {o : Nat} {keys : List Value} {vals : List AV} {k z : Value} {avk av : AV} {i : Option Nat} {ok : Bool} (ht : mapT P t = some (kt, vt, d)) (hz : plainS P (zeroValue vt) = some z) (hx : aeval L x = some (.mp o)) (hy : aeval L y = some avk) (hpk : plainV avk = some k)
    (ho : ob[o]? = some (.mp keys vals)) (hlaw : lawB P kt = true) (hk : keyW P kt k = true) (hks : keys.all (keyW P kt) = true) (hf : kfindV k keys = some i) (hv : mgetA vals (ofV z) i = some av) (hg : Gd ops L guard gu) (hn : ∀ d, dst = some d → d < n)
    (kk : EvK P n ops l (updL L dst (cond ok (.tu [av, .v (.bool (okA i))]) av) []) ob (fun recs => kf (⟨dst, gu ++ uses [(x, .mp o), (y, avk)], cond ok (.tu [av, .v (.bool (okA i))]) av, [], .rd o (.mp keys vals)⟩ :: recs))) :
    EvK P n ops (⟨dst, .lookup t x y ok, ty, pos, after, guard⟩ :: l) L ob kf := by
  refine ev_rd (o := ⟨dst, .lookup t x y ok, ty, pos, after, guard⟩) ho [(x, .mp o), (y, avk)] ⟨hx, hy, trivial⟩ hg hn (fun ob m γ w a hX hi h => ?_) kk
  obtain ⟨r1, r2, _⟩ := h
  have r2 := plainV_rep hpk r2
  simp only [Rep] at r1
  obtain ⟨b, C, g1, e1⟩ := r1
  obtain ⟨hu, hd⟩ := mapT_spec ht
  obtain ⟨b', es, clock, q1, q2, q3, q4, q5⟩ := hi.obj o _ hX
  rw [g1] at q1; cases q1
  subst q3
  have hks' : ∀ q ∈ es.toList.map (·.key), keyW P kt q = true := fun q hq => List.all_eq_true.1 hks q hq
  obtain ⟨hfk, h2⟩ := find_wide (lawB_spec hlaw) (w := w) hk hks' hf
  obtain ⟨lx, hlx⟩ := keyW_spec hk
  have hck := (lawB_spec hlaw).check w es.isEmpty hlx
  have hzz := plainS_run hz w
  obtain ⟨v, hv1, hv2⟩ : ∃ v, (Instr.lookup t (.map (some b)) k ok).run P w = .ok (if ok then .tuple #[v, .bool (okA i)] else v) w ∧ Rep m γ av v := by
    cases i with
    | none =>
      simp only [mgetA, Option.some.injEq] at hv
      subst hv
      simp only [Option.bind_none] at hfk
      exact ⟨z, by cases ok <;> simp [Instr.lookup, run_underlying hu, Go.MapKept.run_getObj_map q2, hck, hfk, hzz, okA], rep_ofV z⟩
    | some j =>
      simp only [mgetA] at hv
      obtain ⟨e, p1, p2⟩ := h2 j rfl
      obtain ⟨u, hu2, hr2⟩ := repVals_get q4 j av hv
      rw [List.getElem?_map, p1] at hu2
      simp only [Option.map_some, Option.some.injEq] at hu2
      subst hu2
      simp only [Option.bind_some, p1, Option.map_some] at hfk
      exact ⟨e.val, by cases ok <;> simp [Instr.lookup, run_underlying hu, Go.MapKept.run_getObj_map q2, hck, hfk, okA], hr2⟩
  refine ⟨if ok then .tuple #[v, .bool (okA i)] else v, by simp only [execOp, e1, r2, Sem.run_bind, hv1, Result.andThen_ok, Sem.run_pure], ?_⟩
  cases ok with
  | true => simp only [cond_true, if_true, Rep, RepVals]; exact ⟨_, rfl, v, [.bool (okA i)], rfl, hv2, _, [], rfl, rfl, rfl⟩
  | false => simpa using hv2
end
end Go.Am
