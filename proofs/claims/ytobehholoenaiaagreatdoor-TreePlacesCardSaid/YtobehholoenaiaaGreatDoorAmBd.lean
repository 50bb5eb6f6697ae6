/-
  An abstract machine, part Bd: what strings.Builder asks for: pointers to unsafe.Pointer and back, a pointer held against itself, unsafe.SliceData, unsafe.String, abi.NoEscape.
-/
import Derived.Test.YtobehholoenaiaaGreatDoorAmX
import Derived.Lib.Builder
import Derived.Lib.UnsafeStr
import Derived.Laws.Externs
import Derived.KernelRfl
namespace Go.Am
def toUB (P : Program) (s d : TypeId) : Bool := match P.underlying s, P.underlying d with
  | some (.pointer t), some .unsafePointer => match P.info? t with
    | some j => !Nat.beq j.size 0
    | none => false
  | _, _ => false
theorem toUB_spec {P : Program} {s d : TypeId} (h : toUB P s d = true) : ∃ t j, P.underlying s = some (.pointer t) ∧ P.underlying d = some .unsafePointer ∧ P.info? t = some j ∧ j.size ≠ 0 := by
  unfold toUB at h
  split at h
  · rename_i t h1 h2
    split at h
    · rename_i j h3
      exact ⟨t, j, h1, h2, h3, fun e => by rw [e] at h; cases h⟩
    · cases h
  · cases h
def fromUB (P : Program) (s d T : TypeId) (k off : Nat) : Bool := match P.underlying s, P.underlying d with
  | some .unsafePointer, some (.pointer u) => match P.info? u with
    | some _ => liesAt P P.depth T (k / P.cellsOf T) off u 1
    | none => false
  | _, _ => false
theorem fromUB_spec {P : Program} {s d T : TypeId} {k off : Nat} (h : fromUB P s d T k off = true) : ∃ u j, P.underlying s = some .unsafePointer ∧ P.underlying d = some (.pointer u) ∧ P.info? u = some j ∧ liesAt P P.depth T (k / P.cellsOf T) off u 1 = true := by
  unfold fromUB at h
  split at h
  · rename_i u h1 h2
    split at h
    · rename_i j h3
      exact ⟨u, j, h1, h2, h3, h⟩
    · cases h
  · cases h
def ptrT (P : Program) (t : TypeId) : Bool := match P.underlying t with
  | some (.pointer te) => (P.info? te).isSome
  | _ => false
/-- bytes, as bytes -/
def u8Of : List Value → Option (List UInt8)
  | [] => some []
  | .int .u8 (.ofNat k) :: r => cond (Nat.blt k 256) (match u8Of r with
    | some l => some (UInt8.ofNat k :: l)
    | none => none) none
  | _ => none
theorem u8Of_spec : ∀ {vs : List Value} {l : List UInt8}, u8Of vs = some l → vs = l.map fun x => Value.int .u8 x.toNat
  | [], l, h => by cases h; rfl
  | v :: vs, l, h => by
    unfold u8Of at h
    split at h
    · rename_i heq; cases heq
    · rename_i k r heq
      cases heq
      cases hk : Nat.blt k 256 with
      | false => rw [hk] at h; cases h
      | true =>
        rw [hk] at h
        have hlt : k < 256 := Nat.le_of_ble_eq_true hk
        simp only [cond_true] at h
        split at h
        · rename_i l2 h2
          cases h
          rw [List.map_cons, ← u8Of_spec h2]
          congr 2
          have : (UInt8.ofNat k).toNat = k := by simp [UInt8.toNat_ofNat']; omega
          rw [this]
          rfl
        · cases h
    · cases h
def noEscB (P : Program) (f : FuncId) : Bool := match P.funcs[f]? with
  | some fn => fn.body.isNone && (fn.name == "internal/abi.NoEscape" && (Extern.findNext fn).isNone)
  | none => false
theorem noEsc_find {fn : Func} (h : fn.name = "internal/abi.NoEscape") : Extern.find fn = some Extern.AbiNoEscape.same := by
  have h1 : Extern.allGenericRows.lookup "internal/abi.NoEscape" = none := by kernel_rfl
  have h2 : Extern.allTypedRows.lookup "internal/abi.NoEscape" = none := by kernel_rfl
  have h3 : Extern.allRows.lookup "internal/abi.NoEscape" = some Extern.AbiNoEscape.same := by kernel_rfl
  unfold Extern.find
  simp only [h, h1, h2, h3, Option.map_none]
  rfl
section
variable {P : Program} {n : Nat} {ops : Array Oper} {l : List Oper} {L : Loc} {ob : List Ob} {kf : List Rec → Loc → List Ob → Prop} {gu : Loc}
variable {dst : Option Nat} {ty : TypeId} {pos : String} {after : Array Edge} {guard : Option (Nat × Bool)}
theorem shape_of {w : World} {b : Nat} {cs : Array Value} {T : TypeId} {fr : Nat × Nat} (h : w.heap[b]? = some (.cells cs T fr)) : w.shape? b = some (T, cs.size) := by simp [World.shape?, h]
theorem ev_toUnsafe {x : Operand} {s d Tb : TypeId} {o off : Nat} {cells : List AV} (ht : toUB P s d = true) (hx : aeval L x = some (.pt o off)) (ho : ob[o]? = some (.box Tb cells)) (hoff : off < cells.length) (hg : Gd ops L guard gu) (hn : ∀ d, dst = some d → d < n)
    (kk : EvK P n ops l (updL L dst (.pt o off) []) ob (fun recs => kf (⟨dst, gu ++ uses [(x, .pt o off)], .pt o off, [], .rd o (.box Tb cells)⟩ :: recs))) :
    EvK P n ops (⟨dst, .convert s d x, ty, pos, after, guard⟩ :: l) L ob kf :=
  ev_rd (o := ⟨dst, .convert s d x, ty, pos, after, guard⟩) ho [(x, .pt o off)] ⟨hx, trivial⟩ hg hn (fun ob m γ w a ho hi h => by
    obtain ⟨t, j, u1, u2, u3, u4⟩ := toUB_spec ht
    have h1 := h.1
    obtain ⟨b, C, g1, e1⟩ := rep_ptr h1
    obtain ⟨b', cs, p1, p2, p3⟩ := box_at hi ho
    rw [g1] at p1; cases p1
    have hl := repVals_length p3
    refine ⟨_, ?_, h1⟩
    have := Lib.run_to_unsafe (P := P) w ⟨b, off, none⟩ u1 u2 u3 u4 (shape_of p2) (by simp at hl; show off < cs.size; omega)
    simp only [execOp, e1, Sem.run_bind, this, Result.andThen_ok, Sem.run_pure]) kk
theorem ev_fromUnsafe {x : Operand} {s d Tb : TypeId} {o off : Nat} {cells : List AV} (ht : fromUB P s d Tb cells.length off = true) (hx : aeval L x = some (.pt o off)) (ho : ob[o]? = some (.box Tb cells)) (hg : Gd ops L guard gu) (hn : ∀ d, dst = some d → d < n)
    (kk : EvK P n ops l (updL L dst (.pt o off) []) ob (fun recs => kf (⟨dst, gu ++ uses [(x, .pt o off)], .pt o off, [], .rd o (.box Tb cells)⟩ :: recs))) :
    EvK P n ops (⟨dst, .convert s d x, ty, pos, after, guard⟩ :: l) L ob kf :=
  ev_rd (o := ⟨dst, .convert s d x, ty, pos, after, guard⟩) ho [(x, .pt o off)] ⟨hx, trivial⟩ hg hn (fun ob m γ w a ho hi h => by
    obtain ⟨u, j, u1, u2, u3, u4⟩ := fromUB_spec ht
    have h1 := h.1
    obtain ⟨b, C, g1, e1⟩ := rep_ptr h1
    obtain ⟨b', cs, p1, p2, p3⟩ := box_at hi ho
    rw [g1] at p1; cases p1
    have hl := repVals_length p3
    have hl' : cells.length = cs.size := by simpa using hl.symm
    rw [hl'] at u4
    refine ⟨_, ?_, h1⟩
    have := Lib.run_from_unsafe (P := P) w ⟨b, off, none⟩ u1 u2 u3 (shape_of p2) u4
    simp only [execOp, e1, Sem.run_bind, this, Result.andThen_ok, Sem.run_pure]) kk
theorem ev_ptrNeq {x y : Operand} {t t' : TypeId} {o off : Nat} (ht : ptrT P t = true) (hx : aeval L x = some (.pt o off)) (hy : aeval L y = some (.pt o off)) (hg : Gd ops L guard gu) (hn : ∀ d, dst = some d → d < n)
    (kk : EvK P n ops l (updL L dst (.v (.bool false)) []) ob (fun recs => kf (⟨dst, gu ++ uses [(x, .pt o off), (y, .pt o off)], .v (.bool false), [], .pure⟩ :: recs))) :
    EvK P n ops (⟨dst, .binOp .neq t x y t', ty, pos, after, guard⟩ :: l) L ob kf :=
  ev_val0 (o := ⟨dst, .binOp .neq t x y t', ty, pos, after, guard⟩) [(x, .pt o off), (y, .pt o off)] ⟨hx, hy, trivial⟩ hg hn (fun m γ w a _ h => by
    obtain ⟨h1, h2, _⟩ := h
    obtain ⟨b, C, g1, e1⟩ := rep_ptr h1
    obtain ⟨b', C', g2, e2⟩ := rep_ptr h2
    rw [g1] at g2
    cases g2
    refine ⟨.bool false, ?_, by simp [Rep]⟩
    unfold ptrT at ht
    split at ht
    · rename_i te hp
      obtain ⟨j, hj⟩ := Option.isSome_iff_exists.1 ht
      have := Lib.run_neq_ptr_same (P := P) w ⟨b, off, none⟩ hp hj
      simp [execOp, e1, e2, eqGuard, this]
    · cases ht) kk
theorem ev_sliceData {x : Operand} {o lo len : Nat} {ts : Array TypeId} (hx : aeval L x = some (.sr o 1 lo len)) (h0 : 0 < len) (hg : Gd ops L guard gu) (hn : ∀ d, dst = some d → d < n)
    (kk : EvK P n ops l (updL L dst (.pt o lo) []) ob (fun recs => kf (⟨dst, gu ++ uses [(x, .sr o 1 lo len)], .pt o lo, [], .pure⟩ :: recs))) :
    EvK P n ops (⟨dst, .call ⟨.builtin .unsafeSliceData, #[x], ts⟩, ty, pos, after, guard⟩ :: l) L ob kf :=
  ev_val0 (o := ⟨dst, .call ⟨.builtin .unsafeSliceData, #[x], ts⟩, ty, pos, after, guard⟩) [(x, .sr o 1 lo len)] ⟨hx, trivial⟩ hg hn (fun m γ w a _ h => by
    have h1 := h.1
    simp only [Rep] at h1
    rcases h1 with ⟨_, _, _, h⟩ | ⟨b, C, cap, g1, g2, g3, g4, (g5 | ⟨h, _⟩)⟩
    · omega
    rotate_left
    · omega
    refine ⟨.pointer (some ⟨b, lo, none⟩), ?_, by simp only [Rep]; exact ⟨b, C, g1, rfl⟩⟩
    have := Lib.run_unsafeSliceData_row (P := P) w ts ty ⟨b, lo * 1, none⟩ len cap (by omega)
    rw [Nat.mul_one] at this
    rw [Nat.mul_one] at g5
    simp [execOp, resolve, invoke, builtin, g5, this]) kk
theorem ev_unsafeString {x y : Operand} {pt it e : TypeId} {o k : Nat} {rows : List (List AV)} {vs : List Value} {bs : List UInt8} (hp : P.underlying pt = some (.pointer e)) (hc : P.cellsOf e = 1) (hx : aeval L x = some (.pt o 0)) (hy : aeval L y = some (.v (.int .i64 k))) (ho : ob[o]? = some (.row e 1 rows))
    (hk : k ≤ rows.length) (h0 : 0 < k) (hv : plains (rows.take k).flatten = some vs) (hb : u8Of vs = some bs) (hlen : Nat.beq bs.length k = true) (h63 : k ≤ 9223372036854775807) (hg : Gd ops L guard gu) (hn : ∀ d, dst = some d → d < n)
    (kk : EvK P n ops l (updL L dst (.v (.string ⟨bs.toArray⟩)) []) (ob.set o .dead) (fun recs => kf (⟨dst, gu ++ uses [(x, .pt o 0), (y, .v (.int .i64 k))], .v (.string ⟨bs.toArray⟩), [], .st o (.row e 1 rows) .dead⟩ :: recs))) :
    EvK P n ops (⟨dst, .call ⟨.builtin .unsafeString, #[x, y], #[pt, it]⟩, ty, pos, after, guard⟩ :: l) L ob kf :=
  ev_st (o := ⟨dst, .call ⟨.builtin .unsafeString, #[x, y], #[pt, it]⟩, ty, pos, after, guard⟩) ho [(x, .pt o 0), (y, .v (.int .i64 k))] ⟨hx, hy, trivial⟩ hg hn (fun ob m γ w a K Q ho hi h hK => by
    obtain ⟨h1, h2, _⟩ := h
    obtain ⟨b, C, g1, e1⟩ := rep_ptr h1
    simp only [Rep] at h2
    have hbl := Nat.eq_of_beq_eq_true hlen
    rcases hi.obj o _ ho with ⟨q1, _⟩ | ⟨b', C', cs, p1, p2, p3, p4, p5, p6, p7, p8⟩
    · rw [g1] at q1; cases q1
    rw [g1] at p1; cases p1
    have hcells : ∀ j z, bs[j]? = some z → w.cell? ((⟨b, 0, none⟩ : Addr).add j) = some (.int .u8 z.toNat) := by
      intro j z hz
      rw [add_addr, Nat.zero_add, p2.cell]
      have hr := repVals_take p7 (k * 1)
      rw [flat_take p6 hk, plains_spec hv] at hr
      have hvs := rep_plains hr
      rw [u8Of_spec hb] at hvs
      have hj : j < k := by rw [← hbl]; exact (List.getElem?_eq_some_iff.1 hz).1
      have hg2 : ((cs.toList.take (rows.length * 1)).take (k * 1))[j]? = some (.int .u8 z.toNat) := by
        rw [hvs, List.getElem?_map, hz]; rfl
      rw [List.getElem?_take, if_pos (by omega), List.getElem?_take, if_pos (by omega)] at hg2
      simpa using hg2
    obtain ⟨fr, hb1, _⟩ := p2
    have hrun := Lib.run_unsafeString_row (P := P) w pt it ty e hp hc b cs.size (shape_of hb1) bs (by intro e0; rw [e0] at hbl; simp at hbl; omega) (by omega) (by omega) hcells
    rw [hbl] at hrun
    obtain ⟨_, i2, i3⟩ := inv_set hi (X' := .dead) ho (by simp) g1 p8 (w' := w.freeze ⟨b, 0, none⟩ k) (fun q hq => by
      unfold World.freeze
      split
      · rfl
      · show (w.heap.modify b _)[q]? = _
        simp [Array.getElem?_modify, Ne.symm hq]) (by unfold World.freeze; split <;> simp) (by unfold World.freeze; split <;> rfl) (by unfold World.freeze; split <;> rfl) (by unfold World.freeze; split <;> rfl) [] trivial
    refine upon_value' (v := .string ⟨bs.toArray⟩) (w' := w.freeze ⟨b, 0, none⟩ k) ?_ (hK m γ _ _ i3 (Le.refl _ _ _) i2 (by simp [Rep]))
    simp [execOp, resolve, invoke, builtin, e1, h2, hrun]) kk
theorem noEsc_step {f : FuncId} {x y : Operand} {av : AV} {xs : List (Operand × AV)} {ts : Array TypeId} (hb : noEscB P f = true) (hx : aeval L x = some (.fn (.func f) [] [])) (ha : EvA L [y] [av] xs) (hg : Gd ops L guard gu) (hn : ∀ d, dst = some d → d < n)
    (kk : EvK P n ops l (updL L dst av []) ob (fun recs => kf (⟨dst, gu ++ uses ((x, .fn (.func f) [] []) :: xs), av, [], .pure⟩ :: recs))) :
    EvK P n ops (⟨dst, .call ⟨.value x, #[y], ts⟩, ty, pos, after, guard⟩ :: l) L ob kf :=
  ev_val0 (o := ⟨dst, .call ⟨.value x, #[y], ts⟩, ty, pos, after, guard⟩) ((x, .fn (.func f) [] []) :: xs) ⟨hx, evA_all ha⟩ hg hn (fun m γ w a _ h => by
    obtain ⟨h1, h2⟩ := h
    have hr := evA_reps (a := a) ha h2
    simp only [List.map_cons, List.map_nil, RepVals] at hr
    obtain ⟨z, r, e, hz, _⟩ := hr
    simp only [List.cons.injEq] at e
    obtain ⟨rfl, _⟩ := e
    simp only [Rep, RepVals] at h1
    obtain ⟨us, vs, e1, rfl, rfl⟩ := h1
    refine ⟨a.eval y, ?_, hz⟩
    unfold noEscB at hb
    split at hb
    · rename_i fn hf
      simp only [Bool.and_eq_true, beq_iff_eq] at hb
      obtain ⟨b1, b2, b3⟩ := hb
      have hnx : Extern.findNext fn = none := by simpa using b3
      have := run_callFunc_extern hf (by rw [b2]; rfl) b1 hnx (noEsc_find b2) #[a.eval y] w
      rw [Lib.run_noEscape] at this
      simp only [Result.andThen_ok] at this
      simp [execOp, resolve, e1, Deferred.ofValue, invoke, this]
    · cases hb) kk
end
end Go.Am
