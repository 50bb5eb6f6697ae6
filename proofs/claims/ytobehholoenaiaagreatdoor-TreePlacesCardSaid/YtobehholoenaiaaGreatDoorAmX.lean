/-
  An abstract machine, part X: arrays, type assertions.
-/
import Derived.Test.YtobehholoenaiaaGreatDoorAmQ
import Derived.Laws.Cover4
import Derived.Laws.IdiomStrings
namespace Go.Am
/-- an array's length, elements, cells of an element -/
def arK (P : Program) (t : TypeId) : Option (Nat × TypeId × Nat) := match P.underlying t with
  | some (.array n e) => match P.info? e with
    | some i => some (n, e, i.size)
    | none => none
  | _ => none
theorem arK_spec {P : Program} {t e : TypeId} {len S : Nat} (h : arK P t = some (len, e, S)) : P.underlying t = some (.array len e) ∧ ∃ i, P.info? e = some i ∧ i.size = S := by
  unfold arK at h
  split at h
  · rename_i n e' hu
    split at h
    · rename_i i hi
      simp only [Option.some.injEq, Prod.mk.injEq] at h
      obtain ⟨rfl, rfl, rfl⟩ := h
      exact ⟨hu, i, hi, rfl⟩
    · cases h
  · cases h
/-- what 'build' fills: a struct, an array -/
def fldA (P : Program) (t : TypeId) : Option (List (Nat × Nat) × List Value) := match flds P t with
  | some r => some r
  | none => match arK P t, zer P t with
    | some (n, _, S), some zs => some ((List.range n).map fun i => (i * S, S), zs)
    | _, _ => none
def runeT (P : Program) (s d : TypeId) : Bool := match P.underlying s, P.underlying d with
  | some (.slice e), some .string => match P.underlying e with
    | some (.int .i32) => true
    | _ => false
  | _, _ => false
def runesOf : List Value → Option (List UInt8)
  | [] => some []
  | .int .i32 n :: vs => match runesOf vs with
    | some r => some ((Utf8.encode n).data.toList ++ r)
    | none => none
  | _ => none
theorem runesOf_spec : ∀ {vs : List Value} {zs : List UInt8}, runesOf vs = some zs → ∃ ns : List Int, vs = ns.map (Value.int .i32) ∧ zs = (ns.map fun n => (Utf8.encode n).data.toList).flatten
  | [], zs, h => by simp only [runesOf, Option.some.injEq] at h; subst h; exact ⟨[], rfl, rfl⟩
  | v :: vs, zs, h => by
    unfold runesOf at h
    split at h
    · rename_i heq; cases heq
    · rename_i n r heq
      cases heq
      cases hr : runesOf vs with
      | none => simp [hr] at h
      | some ys =>
        simp only [hr, Option.some.injEq] at h
        subst h
        obtain ⟨ns, h1, h2⟩ := runesOf_spec hr
        exact ⟨n :: ns, by rw [h1]; rfl, by rw [h2]; rfl⟩
    · cases h
theorem runesBytes_eq (ns : List Int) : runesBytes ns = ⟨((ns.map fun n => (Utf8.encode n).data.toList).flatten).toArray⟩ := by
  have key : ∀ (ns : List Int) (s : ByteArray), ns.foldl (fun r n => r ++ Utf8.encode n) s = ⟨(s.data.toList ++ (ns.map fun n => (Utf8.encode n).data.toList).flatten).toArray⟩ := by
    intro ns
    induction ns with
    | nil => intro s; simp
    | cons n ns ih =>
      intro s
      rw [List.foldl_cons, ih]
      simp
  have := key ns ByteArray.empty
  simpa [runesBytes] using this
theorem fill_more {f g : Nat → Option (Nat × Nat)} (h : ∀ i p, f i = some p → g i = some p) : ∀ (parts : List (Nat × Value)) (cells r : Array Value), Instr.fill f cells parts = some r → Instr.fill g cells parts = some r
  | [], cells, r, e => by simpa [Instr.fill] using e
  | (i, v) :: rest, cells, r, e => by
    simp only [Instr.fill] at e ⊢
    cases hf : f i with
    | none => simp [hf] at e
    | some p =>
      obtain ⟨off, size⟩ := p
      rw [h i _ hf]
      simp only [hf] at e ⊢
      split at e
      · cases e
      · rename_i hc
        rw [if_neg hc]
        exact fill_more h rest _ r e

section
variable {P : Program} {n : Nat} {ops : Array Oper} {l : List Oper} {L : Loc} {ob : List Ob} {kf : List Rec → Loc → List Ob → Prop} {gu : Loc}
variable {dst : Option Nat} {ty : TypeId} {pos : String} {after : Array Edge} {guard : Option (Nat × Bool)}
theorem ev_r2s {x : Operand} {s d : TypeId} {av : AV} {new : List (List AV)} {vs : List Value} {zs : List UInt8} (ht : runeT P s d = true) (hx : aeval L x = some av) (hns : ∀ q, av ≠ .v (.string q)) (hs : srcA ob 1 av = some new) (hp : plains new.flatten = some vs) (hb : runesOf vs = some zs) (hone : rowsOne new = true) (hg : Gd ops L guard gu) (hn : ∀ d, dst = some d → d < n)
    (kk : EvK P n ops l (updL L dst (.v (.string ⟨zs.toArray⟩)) []) ob (fun recs => kf (⟨dst, gu ++ uses [(x, av)], .v (.string ⟨zs.toArray⟩), [], .read⟩ :: recs))) :
    EvK P n ops (⟨dst, .convert s d x, ty, pos, after, guard⟩ :: l) L ob kf :=
  ev_val1 (o := ⟨dst, .convert s d x, ty, pos, after, guard⟩) [(x, av)] ⟨hx, trivial⟩ hg hn (fun m γ w a hi h => by
    have h1 := h.1
    have hu : ∃ e, P.underlying s = some (.slice e) ∧ P.underlying d = some .string ∧ P.underlying e = some (.int .i32) := by
      unfold runeT at ht
      split at ht
      · rename_i e h1 h2
        split at ht
        · rename_i h3; exact ⟨e, h1, h2, h3⟩
        · cases ht
      · cases ht
    obtain ⟨e, u1, u2, u3⟩ := hu
    have hst : srcT P s av = true := by
      unfold srcT
      split
      · exact absurd rfl (hns _)
      · rw [u1]
    obtain ⟨news, k1, k2, k3⟩ := src_of hi h1 hs hst hone
    obtain ⟨ns, hn1, hn2⟩ := runesOf_spec hb
    have hnv : news = ns.map (Value.int .i32) := by
      rw [plains_spec hp] at k2
      rw [rep_plains k2, hn1]
    subst hnv
    have hstr : runesBytes ns = ⟨zs.toArray⟩ := by rw [runesBytes_eq, hn2]
    refine ⟨.string ⟨zs.toArray⟩, ?_, by simp [Rep]⟩
    have hlen := k1.len w
    have hc := k1.cells
    have hshape : ∃ ad ln c, a.eval x = .slice ad ln c := by
      cases av with
      | sl S rows => simp only [Rep] at h1; obtain ⟨ad, ln, c, e, _⟩ := h1; exact ⟨ad, ln, c, e⟩
      | sr o S lo len =>
        simp only [Rep] at h1
        rcases h1 with ⟨_, ⟨ad, e⟩, _⟩ | ⟨b, C, cap, _, _, _, _, (e | ⟨_, _, ad, e⟩)⟩
        · exact ⟨_, _, _, e⟩
        · exact ⟨_, _, _, e⟩
        · exact ⟨_, _, _, e⟩
      | v y =>
        simp only [Rep] at h1
        cases y with
        | slice ad ln c => exact ⟨_, _, _, h1⟩
        | string q => exact absurd rfl (hns q)
        | _ => simp [srcA] at hs
      | _ => simp [srcA] at hs
    obtain ⟨ad, ln, c, ex⟩ := hshape
    rw [ex] at hlen hc
    simp only [Builtin.lenOf, Sem.run_pure, Result.ok.injEq, and_true] at hlen
    have key : (Conv.runesToString (.slice ad ln c)).run P w = .ok (.string ⟨zs.toArray⟩) w := by
      cases ad with
      | none =>
        have hz : ns = [] := by
          simp [Builtin.firstCells] at hc
          exact hc
        subst hz
        rw [← hstr]
        simp [Conv.runesToString, runesBytes]
      | some ad =>
        rw [← hstr]
        refine run_runesToString w ad ln c ns ?_
        simp only [Builtin.firstCells, Nat.mul_one] at hc
        rw [hlen]; exact hc
    simp [execOp, convert, run_underlying u1, run_underlying u2, run_underlying u3, ex, key]) kk
def byteRows (q : ByteArray) : List (List AV) := q.data.toList.map fun b => [.v (.int .u8 b.toNat)]
theorem byteRows_len (q : ByteArray) : (byteRows q).length = q.size := by simp [byteRows]
theorem byteRows_one (q : ByteArray) : ∀ r ∈ byteRows q, r.length = 1 := by
  intro r hr
  simp only [byteRows, List.mem_map] at hr
  obtain ⟨b, _, rfl⟩ := hr
  rfl
theorem reps_v {m : Mem} {γ : Gam} : ∀ (vs : List Value), RepVals m γ (vs.map .v) vs
  | [] => by simp [RepVals]
  | v :: vs => by simp only [List.map_cons, RepVals, Rep]; exact ⟨v, vs, rfl, rfl, reps_v vs⟩
theorem byteRows_flat (q : ByteArray) : (byteRows q).flatten = (q.data.toList.map fun b => Value.int .u8 b.toNat).map .v := by
  unfold byteRows
  induction q.data.toList with
  | nil => rfl
  | cons b l ih => simp only [List.map_cons, List.flatten_cons, List.cons_append, List.nil_append, ih]
theorem s2b_types {s d e : TypeId} {B : Nat} (ht : strT P d s = true) (hd : slk P d = some (e, 1, B)) : P.underlying s = some .string ∧ P.underlying d = some (.slice e) ∧ P.underlying e = some (.int .u8) := by
  obtain ⟨hu, _⟩ := slk_elem hd
  unfold strT at ht
  split at ht
  · rename_i e' h1 h2
    rw [hu] at h1
    cases h1
    split at ht
    · rename_i h3; exact ⟨h2, hu, h3⟩
    · cases ht
  · cases ht
theorem bytesRow_size {w : World} (q : ByteArray) (e : TypeId) : (bytesRow q (grownCap w q.size 0 e)).size = grownCap w q.size 0 e := by
  have := grownCap_ge w q.size 0 e
  simp only [bytesRow, Array.size_append, Array.size_map, Array.size_replicate]
  have hs : q.data.size = q.size := rfl
  omega
/-- bytes of a string -/
theorem ev_s2b {x : Operand} {s d e : TypeId} {q : ByteArray} {B : Nat} (ht : strT P d s = true) (hd : slk P d = some (e, 1, B)) (hx : aeval L x = some (.v (.string q))) (hlen : q.size ≤ maxLen) (hg : Gd ops L guard gu) (hn : ∀ d, dst = some d → d < n)
    (kk : EvK P n ops l (updL L dst (.sr ob.length 1 0 q.size) []) (ob ++ [.row e 1 (byteRows q)]) (fun recs => kf (⟨dst, gu ++ uses [(x, .v (.string q))], .sr ob.length 1 0 q.size, [], .write⟩ :: recs))) :
    EvK P n ops (⟨dst, .convert s d x, ty, pos, after, guard⟩ :: l) L ob kf :=
  ev_any2 (o := ⟨dst, .convert s d x, ty, pos, after, guard⟩) [] [(x, .v (.string q))] ⟨hx, trivial⟩ hg hn (fun m γ w a K Q hi h hK => by
    have h1 := h.1
    simp only [Rep] at h1
    obtain ⟨u1, u2, u3⟩ := s2b_types ht hd
    obtain ⟨hid, htd⟩ := inv_drew hi
    have hge := grownCap_ge w q.size 0 e
    obtain ⟨k1, k2⟩ := inv_new hid (.cells (bytesRow q (grownCap w q.size 0 e)) e ((bytesRow q (grownCap w q.size 0 e)).size, (bytesRow q (grownCap w q.size 0 e)).size + 1)) (grownCap w q.size 0 e) (.row e 1 (byteRows q))
      (.inr ⟨w.heap.size, grownCap w q.size 0 e, _, by simp [addG], ⟨_, heap_alloc_new w.drew _, .inr rfl⟩, by rw [bytesRow_size, Nat.mul_one], by rw [byteRows_len]; exact hge, grownCap_le_maxLen w q.size 0 e hlen, byteRows_one q, by
        rw [byteRows_flat, byteRows_len, Nat.mul_one]
        have : (bytesRow q (grownCap w q.size 0 e)).toList.take q.size = q.data.toList.map fun b => Value.int .u8 b.toNat := by
          have hl : (q.data.toList.map fun b => Value.int .u8 b.toNat).length = q.size := by simp
          simp only [bytesRow, Array.toList_append, Array.toList_map]
          rw [← hl, List.take_left]
        rw [this]
        exact reps_v _, fun off => mem_fresh hi (Nat.le_refl _) off⟩)
    refine upon_value' (v := .slice (some ⟨w.heap.size, 0, none⟩) q.size (grownCap w q.size 0 e)) (w' := w.drew.alloc _) ?_ (hK m _ _ _ (htd.trans k2) (le_addG hid _ _) k1 ?_)
    · simp only [execOp, h1, Sem.run_bind, run_bytes_of_string w s d e q u1 u2 u3, Result.andThen_ok, Sem.run_pure]
    · simp only [Rep]
      exact .inr ⟨w.heap.size, grownCap w q.size 0 e, grownCap w q.size 0 e, by simp [addG], by omega, hge, by omega, .inl (by simp)⟩) kk
/-- .. never written again -/
theorem ev_s2bF {x : Operand} {s d e : TypeId} {q : ByteArray} {B : Nat} (ht : strT P d s = true) (hd : slk P d = some (e, 1, B)) (hx : aeval L x = some (.v (.string q))) (hg : Gd ops L guard gu) (hn : ∀ d, dst = some d → d < n)
    (kk : EvK P n ops l (updL L dst (.sl 1 (byteRows q)) []) ob (fun recs => kf (⟨dst, gu ++ uses [(x, .v (.string q))], .sl 1 (byteRows q), [], .pure⟩ :: recs))) :
    EvK P n ops (⟨dst, .convert s d x, ty, pos, after, guard⟩ :: l) L ob kf :=
  ev_any0 (o := ⟨dst, .convert s d x, ty, pos, after, guard⟩) [(x, .v (.string q))] ⟨hx, trivial⟩ hg hn (fun ob m γ w a K Q hi h hK => by
    have h1 := h.1
    simp only [Rep] at h1
    obtain ⟨u1, u2, u3⟩ := s2b_types ht hd
    obtain ⟨hid, htd⟩ := inv_drew hi
    have hge := grownCap_ge w q.size 0 e
    let k := grownCap w q.size 0 e - q.size
    have hflat : ∀ j, (List.replicate j [AV.v (.int .u8 0)]).flatten = (List.replicate j (Value.int .u8 0)).map .v := by
      intro j
      induction j with
      | zero => rfl
      | succ j ih => simp only [List.replicate_succ, List.flatten_cons, List.map_cons, ih, List.cons_append, List.nil_append]
    obtain ⟨m', i1, i2, i3, i4⟩ := inv_frozen hid (S := 1) (T := e) (rows := byteRows q ++ List.replicate k [.v (.int .u8 0)]) (cs := bytesRow q (grownCap w q.size 0 e)) (fr := ((bytesRow q (grownCap w q.size 0 e)).size, (bytesRow q (grownCap w q.size 0 e)).size + 1)) (by
      intro r hr
      rcases List.mem_append.1 hr with h | h
      · exact byteRows_one q r h
      · rw [List.eq_of_mem_replicate h]; rfl) (by
      have : (byteRows q ++ List.replicate k [AV.v (.int .u8 0)]).flatten = (bytesRow q (grownCap w q.size 0 e)).toList.map .v := by
        rw [List.flatten_append, byteRows_flat, hflat, ← List.map_append]
        simp only [bytesRow, Array.toList_append, Array.toList_map, Array.toList_replicate, k]
      rw [this]
      exact reps_v _)
    refine upon_value' (v := .slice (some ⟨w.heap.size, 0, none⟩) q.size (grownCap w q.size 0 e)) (w' := w.drew.alloc _) ?_ (hK m' _ _ _ (htd.trans i2) i3 i1 ?_)
    · simp only [execOp, h1, Sem.run_bind, run_bytes_of_string w s d e q u1 u2 u3, Result.andThen_ok, Sem.run_pure]
    · simp only [Rep]
      have hp := repRows_take i4 q.size
      rw [← byteRows_len q, List.take_left] at hp
      exact ⟨_, q.size, _, rfl, (byteRows_len q).symm, hge, .inr ⟨w.heap.size, 0, rfl, hp⟩⟩) kk
theorem ev_buildA {t : TypeId} {ps : List (Nat × Operand)} {avs : List (Nat × AV)} {xs : List (Operand × AV)} {pl : List (Nat × Nat)} {zs : List Value} {cells : List AV} (ht : fldA P t = some (pl, zs)) (hp : EvP L ps avs xs) (hf : fillA pl (zs.map .v) avs = some cells)
    (hg : Gd ops L guard gu) (hn : ∀ d, dst = some d → d < n)
    (kk : EvK P n ops l (updL L dst (.ag cells) []) ob (fun recs => kf (⟨dst, gu ++ uses xs, .ag cells, [], .pure⟩ :: recs))) :
    EvK P n ops (⟨dst, .build t ps.toArray, ty, pos, after, guard⟩ :: l) L ob kf := by
  unfold fldA at ht
  split at ht
  · rename_i r hr
    simp only [Option.some.injEq] at ht
    subst ht
    exact ev_build hr hp hf hg hn kk
  · split at ht
    · rename_i len e S zs' hk hz
      simp only [Option.some.injEq, Prod.mk.injEq] at ht
      obtain ⟨rfl, rfl⟩ := ht
      obtain ⟨hu, ie, hie, hS⟩ := arK_spec hk
      subst hS
      refine ev_val0 (o := ⟨dst, .build t ps.toArray, ty, pos, after, guard⟩) xs (evP_all hp) hg hn (fun m γ w a _ hr => ?_) kk
      unfold zer at hz
      split at hz
      · rename_i it hi
        cases hz0 : it.zero with
        | none => simp [hz0] at hz
        | some z =>
          simp only [hz0, Option.map_some, Option.some.injEq] at hz
          subst hz
          obtain ⟨cur', k1, k2⟩ := fill_reps (a := a) hp hr (cur := z.cells) (repVals_plain _) hf
          have k3 := fill_more (g := fun i => some (i * ie.size, ie.size)) (fun i p h => by
            simp only [List.getElem?_toArray, List.getElem?_map] at h
            cases hr : (List.range len)[i]? with
            | none => simp [hr] at h
            | some j =>
              obtain ⟨h1, h2⟩ := List.getElem?_eq_some_iff.1 hr
              simp at h2
              subst h2
              simpa [hr] using h) _ _ _ k1
          have hb : P.built t (ps.map fun p => (p.1, a.eval p.2)) = some cur' := by
            unfold Program.built
            simp only [hi, hu, hz0, hie]
            exact k3
          have := run_build w t (ps.map fun p => (p.1, a.eval p.2)).toArray cur' (by simpa using hb)
          refine ⟨.agg cur', ?_, by simp only [Rep]; exact ⟨cur'.toList, by simp, k2⟩⟩
          simp only [execOp, List.map_toArray, Sem.run_bind, this, Result.andThen_ok, Sem.run_pure]
      · cases hz
    · cases ht

theorem run_indexAr {t e : TypeId} {len S : Nat} (h : arK P t = some (len, e, S)) (w : World) (b off : Nat) (q : IntKind) (i : Nat) (hi : i < len) :
    (Instr.indexAt t (.pointer (some ⟨b, off, none⟩)) (.int q i)).run P w = .ok (.pointer (some ⟨b, off + i * S, none⟩)) w := by
  obtain ⟨hu, inf, h1, h2⟩ := arK_spec h
  have hc : (0 : Int) ≤ (i : Int) ∧ (i : Int) < (len : Int) := by omega
  simp only [Instr.indexAt, Instr.sureAddr, asIntOf, Sem.run_bind, Sem.run_pure, Result.andThen_ok, run_underlying hu]
  simp only [sizeOf, typeInfo, Sem.run_bind, run_program, Result.andThen_ok, h1, Sem.run_pure, h2, hc, and_self, if_true]
  simp [add_addr]
theorem ev_indexAr_pt {x i : Operand} {t e : TypeId} {len S p off z : Nat} {q : IntKind} (ht : arK P t = some (len, e, S)) (hx : aeval L x = some (.pt p off)) (hi : aeval L i = some (.v (.int q (.ofNat z)))) (hz : z < len)
    (hg : Gd ops L guard gu) (hn : ∀ d, dst = some d → d < n)
    (kk : EvK P n ops l (updL L dst (.pt p (off + z * S)) []) ob (fun recs => kf (⟨dst, gu ++ uses [(x, .pt p off), (i, .v (.int q (.ofNat z)))], .pt p (off + z * S), [], .pure⟩ :: recs))) :
    EvK P n ops (⟨dst, .indexAddr t x i, ty, pos, after, guard⟩ :: l) L ob kf :=
  ev_val0 (o := ⟨dst, .indexAddr t x i, ty, pos, after, guard⟩) [(x, .pt p off), (i, .v (.int q (.ofNat z)))] ⟨hx, hi, trivial⟩ hg hn (fun m γ w a _ h => by
    obtain ⟨h1, h2, _⟩ := h
    simp only [Rep] at h1 h2
    obtain ⟨b, C, g1, g2⟩ := h1
    refine ⟨.pointer (some ⟨b, off + z * S, none⟩), ?_, by simp only [Rep]; exact ⟨b, C, g1, rfl⟩⟩
    have := run_indexAr ht w b off q z hz
    simp only [execOp, g2, h2, Sem.run_bind]
    rw [show (Int.ofNat z) = ((z : Nat) : Int) from rfl, this]
    simp only [Result.andThen_ok, Sem.run_pure]) kk
theorem ev_indexAr_pf {x i : Operand} {t e : TypeId} {len S z : Nat} {cs : List AV} {q : IntKind} (ht : arK P t = some (len, e, S)) (hx : aeval L x = some (.pf cs)) (hi : aeval L i = some (.v (.int q (.ofNat z)))) (hz : z < len)
    (hg : Gd ops L guard gu) (hn : ∀ d, dst = some d → d < n)
    (kk : EvK P n ops l (updL L dst (.pf (cs.drop (z * S))) []) ob (fun recs => kf (⟨dst, gu ++ uses [(x, .pf cs), (i, .v (.int q (.ofNat z)))], .pf (cs.drop (z * S)), [], .pure⟩ :: recs))) :
    EvK P n ops (⟨dst, .indexAddr t x i, ty, pos, after, guard⟩ :: l) L ob kf :=
  ev_val0 (o := ⟨dst, .indexAddr t x i, ty, pos, after, guard⟩) [(x, .pf cs), (i, .v (.int q (.ofNat z)))] ⟨hx, hi, trivial⟩ hg hn (fun m γ w a _ h => by
    obtain ⟨h1, h2, _⟩ := h
    simp only [Rep] at h1 h2
    obtain ⟨b, off, g2, g1⟩ := h1
    refine ⟨.pointer (some ⟨b, off + z * S, none⟩), ?_, by simp only [Rep]; exact ⟨b, _, rfl, repCells_drop g1 _⟩⟩
    have := run_indexAr ht w b off q z hz
    simp only [execOp, g2, h2, Sem.run_bind]
    rw [show (Int.ofNat z) = ((z : Nat) : Int) from rfl, this]
    simp only [Result.andThen_ok, Sem.run_pure]) kk
theorem ev_indexAg {x i : Operand} {t e : TypeId} {len S S' z : Nat} {cs : List AV} {g : Bool} {q : IntKind} {r : AV} (ht : arK P t = some (len, e, S')) (he : tyk P e = some (g, S)) (hx : aeval L x = some (.ag cs)) (hi : aeval L i = some (.v (.int q (.ofNat z)))) (hz : z < len)
    (hr : (g = true ∧ z * S + S ≤ cs.length ∧ r = .ag ((cs.drop (z * S)).take S)) ∨ (g = false ∧ cs[z * S]? = some r))
    (hg : Gd ops L guard gu) (hn : ∀ d, dst = some d → d < n)
    (kk : EvK P n ops l (updL L dst r []) ob (fun recs => kf (⟨dst, gu ++ uses [(x, .ag cs), (i, .v (.int q (.ofNat z)))], r, [], .pure⟩ :: recs))) :
    EvK P n ops (⟨dst, .index t x i, ty, pos, after, guard⟩ :: l) L ob kf :=
  ev_val0 (o := ⟨dst, .index t x i, ty, pos, after, guard⟩) [(x, .ag cs), (i, .v (.int q (.ofNat z)))] ⟨hx, hi, trivial⟩ hg hn (fun m γ w a _ h => by
    obtain ⟨h1, h2, _⟩ := h
    simp only [Rep] at h1 h2
    obtain ⟨vs, g2, g1⟩ := h1
    obtain ⟨hu, inf, k1, k2⟩ := arK_spec ht
    have hc : (0 : Int) ≤ Int.ofNat z ∧ Int.ofNat z < (len : Int) := ⟨Int.natCast_nonneg z, Int.ofNat_lt.2 hz⟩
    have hsz := run_sizeOf (w := w) he
    have hag := run_isAgg (w := w) he
    have hl := repVals_length g1
    have hidx : (Instr.index t (.agg vs.toArray) (.int q (Int.ofNat z))).run P w = (part e vs.toArray (z * S)).run P w := by
      simp only [Instr.index, asIntOf, Sem.run_bind, Sem.run_pure, Result.andThen_ok, run_underlying hu, hc, and_self, if_true, hsz]
      rfl
    have hpart : ∃ y, (part e vs.toArray (z * S)).run P w = .ok y w ∧ Rep m γ r y := by
      rcases hr with ⟨rfl, hle, rfl⟩ | ⟨rfl, hcell⟩
      · refine ⟨.agg ((vs.drop (z * S)).take S).toArray, ?_, by simp only [Rep]; exact ⟨_, rfl, repVals_take (repVals_drop g1 _) _⟩⟩
        simp only [part, Sem.run_bind, hag, Result.andThen_ok, if_true, hsz, Sem.run_pure]
        congr 2
        apply Array.ext'
        simp [List.extract_eq_take_drop]
      · obtain ⟨y, hy, hry⟩ := repVals_get g1 _ _ hcell
        refine ⟨y, ?_, hry⟩
        simp only [part, Sem.run_bind, hag, Result.andThen_ok, Bool.false_eq_true, if_false, List.getElem?_toArray, hy, Sem.run_pure]
    obtain ⟨y, hy, hry⟩ := hpart
    refine ⟨y, ?_, hry⟩
    simp only [execOp, g2, h2, Sem.run_bind, hidx, hy, Result.andThen_ok, Sem.run_pure]) kk

theorem notIface {t : TypeId} (h : isIfaceT P t = some false) : ∃ D, P.underlying t = some D ∧ ∀ ms, D ≠ .interface ms := by
  unfold isIfaceT at h
  cases hu : P.underlying t with
  | none => simp [hu] at h
  | some D =>
    refine ⟨D, rfl, fun ms e => ?_⟩
    subst e
    simp [hu] at h
theorem run_assert_yes {at' : TypeId} {v : Value} (h : isIfaceT P at' = some false) (xt : TypeId) (ok : Bool) (w : World) : (Instr.typeAssert (.iface at' v) xt at' ok).run P w = .ok (if ok then .tuple #[v, .bool true] else v) w := by
  obtain ⟨D, hu, hD⟩ := notIface h
  cases D <;> first | exact absurd rfl (hD _) | simp [Instr.typeAssert, run_underlying hu]
theorem run_assert_no {at' t : TypeId} {v z : Value} (h : isIfaceT P at' = some false) (hz : plainS P (zeroValue at') = some z) (hne : t ≠ at') (xt : TypeId) (w : World) : (Instr.typeAssert (.iface t v) xt at' true).run P w = .ok (.tuple #[z, .bool false]) w := by
  obtain ⟨D, hu, hD⟩ := notIface h
  have hz' := plainS_run hz w
  cases D <;> first | exact absurd rfl (hD _) | simp [Instr.typeAssert, run_underlying hu, hne, hz']
theorem run_assert_nil {at' : TypeId} {z : Value} (h : isIfaceT P at' = some false) (hz : plainS P (zeroValue at') = some z) (xt : TypeId) (w : World) : (Instr.typeAssert .nilIface xt at' true).run P w = .ok (.tuple #[z, .bool false]) w := by
  obtain ⟨D, hu, hD⟩ := notIface h
  have hz' := plainS_run hz w
  cases D <;> first | exact absurd rfl (hD _) | simp [Instr.typeAssert, run_underlying hu, hz']
theorem ev_assert {x : Operand} {xt at' : TypeId} {ok : Bool} {av r : AV} (h : isIfaceT P at' = some false) (hx : aeval L x = some av)
    (hr : (∃ y, av = .ifc at' y ∧ r = cond ok (.tu [y, .v (.bool true)]) y) ∨ (∃ t y z, av = .ifc t y ∧ t ≠ at' ∧ ok = true ∧ plainS P (zeroValue at') = some z ∧ r = .tu [ofV z, .v (.bool false)]) ∨ (∃ z, av = .v .nilIface ∧ ok = true ∧ plainS P (zeroValue at') = some z ∧ r = .tu [ofV z, .v (.bool false)]))
    (hg : Gd ops L guard gu) (hn : ∀ d, dst = some d → d < n)
    (kk : EvK P n ops l (updL L dst r []) ob (fun recs => kf (⟨dst, gu ++ uses [(x, av)], r, [], .pure⟩ :: recs))) :
    EvK P n ops (⟨dst, .typeAssert x xt at' ok, ty, pos, after, guard⟩ :: l) L ob kf :=
  ev_val0 (o := ⟨dst, .typeAssert x xt at' ok, ty, pos, after, guard⟩) [(x, av)] ⟨hx, trivial⟩ hg hn (fun m γ w a _ hq => by
    have h1 := hq.1
    rcases hr with ⟨y, rfl, rfl⟩ | ⟨t, y, z, rfl, hne, rfl, hz, rfl⟩ | ⟨z, rfl, rfl, hz, rfl⟩
    · simp only [Rep] at h1
      obtain ⟨v, e, hv⟩ := h1
      refine ⟨if ok then .tuple #[v, .bool true] else v, ?_, ?_⟩
      · simp only [execOp, e, Sem.run_bind, run_assert_yes h, Result.andThen_ok, Sem.run_pure]
      · cases ok with
        | true => simp only [cond_true, if_true, Rep]; exact ⟨[v, .bool true], rfl, by simp only [RepVals, Rep]; exact ⟨_, _, rfl, hv, _, _, rfl, rfl, rfl⟩⟩
        | false => simpa using hv
    · simp only [Rep] at h1
      obtain ⟨v, e, hv⟩ := h1
      refine ⟨.tuple #[z, .bool false], ?_, by simp only [Rep]; exact ⟨[z, .bool false], rfl, by simp only [RepVals, Rep]; exact ⟨_, _, rfl, rep_ofV z, _, _, rfl, rfl, rfl⟩⟩⟩
      simp only [execOp, e, Sem.run_bind, run_assert_no h hz hne, Result.andThen_ok, Sem.run_pure]
    · simp only [Rep] at h1
      refine ⟨.tuple #[z, .bool false], ?_, by simp only [Rep]; exact ⟨[z, .bool false], rfl, by simp only [RepVals, Rep]; exact ⟨_, _, rfl, rep_ofV z, _, _, rfl, rfl, rfl⟩⟩⟩
      simp only [execOp, h1, Sem.run_bind, run_assert_nil h hz, Result.andThen_ok, Sem.run_pure]) kk
end
end Go.Am
