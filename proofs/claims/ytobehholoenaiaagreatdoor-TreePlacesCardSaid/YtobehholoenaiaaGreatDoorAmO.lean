/-
  An abstract machine, part O: slices built and made, slices of no capacity, maps, bytes and strings.
-/
import Derived.Test.YtobehholoenaiaaGreatDoorAmN
namespace Go.Am

theorem flatten_replicate {S : Nat} {zs : List AV} (hz : zs.length = S) : ∀ n, ((List.replicate n zs).flatten).length = n * S
  | 0 => by simp
  | n + 1 => by rw [List.replicate_succ, List.flatten_cons, List.length_append, flatten_replicate hz n, hz, Nat.add_mul]; omega
theorem repVals_made {m : Mem} {γ : Gam} {z : Array Value} {S : Nat} (hz : z.size = S) (hS : 0 < S) (n : Nat) : ∀ N, N = n * S → RepVals m γ (List.replicate n (z.toList.map AV.v)).flatten (madeCells z N).toList := by
  intro N hN
  subst hN
  have hl : (z.toList.map AV.v).length = S := by simp [hz]
  have hfl := flatten_replicate hl n
  refine repVals_of_get (by rw [hfl, Array.length_toList, size_madeCells]) fun i c x hc hx => ?_
  have hi : i < n * S := by
    have := (List.getElem?_eq_some_iff.1 hc).1
    omega
  have hx2 : (madeCells z (n * S))[i]? = some x := by simpa using hx
  simp only [madeCells, Array.getElem?_map, Array.getElem?_range, hi, if_true, Option.map_some, Option.some.injEq] at hx2
  have hmod : i % S < S := Nat.mod_lt _ hS
  have hq : i / S < n := by
    rw [Nat.div_lt_iff_lt_mul hS]; exact hi
  have hrow := flatten_row (S := S) (rows := List.replicate n (z.toList.map AV.v)) (i := i / S) (row := z.toList.map AV.v) (fun r hr => by rw [(List.mem_replicate.1 hr).2]; exact hl) (by rw [List.getElem?_replicate, if_pos hq])
  have h3 : (z.toList.map AV.v)[i % S]? = some c := by
    rw [← hrow, List.getElem?_take, if_pos hmod, List.getElem?_drop, show i / S * S + i % S = i from by rw [Nat.mul_comm]; exact Nat.div_add_mod i S]
    exact hc
  rw [List.getElem?_map] at h3
  have hlt : i % S < z.size := by omega
  rw [hz] at hx2
  rw [getElem!_pos z (i % S) hlt] at hx2
  rw [Array.getElem?_toList, Array.getElem?_eq_getElem hlt] at h3
  simp only [Option.map_some, Option.some.injEq] at h3
  subst h3; simp [Rep, hx2]

section
variable {P : Program} {n : Nat} {ops : Array Oper} {l : List Oper} {L : Loc} {ob : List Ob} {kf : List Rec → Loc → List Ob → Prop} {gu : Loc}
variable {dst : Option Nat} {ty : TypeId} {pos : String} {after : Array Edge} {guard : Option (Nat × Bool)}
/-- a slice literal, as a live row -/
theorem ev_buildSliceL {t e : TypeId} {S B : Nat} {zs : List Value} {len : Nat} {ps : List (Nat × Operand)} {avs : List (Nat × AV)} {xs : List (Operand × AV)} {rows : List (List AV)} (ht : slk P t = some (e, S, B)) (hz : zer P e = some zs) (hp : EvP L ps avs xs) (hr : rowsOf S 0 avs = some rows)
    (hlen : avs.length = len) (hsmall : len * S ≤ 2 ^ 24) (hmax : len ≤ maxLen) (hg : Gd ops L guard gu) (hn : ∀ d, dst = some d → d < n)
    (kk : EvK P n ops l (updL L dst (.sr ob.length S 0 len) []) (ob ++ [.row e S rows]) (fun recs => kf (⟨dst, gu ++ uses xs, .sr ob.length S 0 len, [], .write⟩ :: recs))) :
    EvK P n ops (⟨dst, .buildSlice t len ps.toArray, ty, pos, after, guard⟩ :: l) L ob kf :=
  ev_any2 (o := ⟨dst, .buildSlice t len ps.toArray, ty, pos, after, guard⟩) [] xs (evP_all hp) hg hn (fun m γ w a K Q hi hx hK => by
    obtain ⟨hu, inf, g1, g2, _⟩ := slk_elem ht
    obtain ⟨z, hzz⟩ : ∃ z, inf.zero = some z := by
      unfold zer at hz
      rw [g1] at hz
      cases hzz : inf.zero with
      | none => simp [hzz] at hz
      | some z => exact ⟨z, rfl⟩
    have key : ∀ cur : Array Value, cur.size = len * S → ∃ cur' : Array Value, Instr.fill (fun i => some (i * S, S)) cur (ps.map fun p => (p.1, a.eval p.2)) = some cur' ∧ RepVals m γ rows.flatten cur'.toList := by
      intro cur hcur
      obtain ⟨cur', k1, ys, k2, k3⟩ := fill_rows (a := a) hp hx (k := 0) (cur := cur) hr (by simp [hlen, hcur])
      have hcur : cur'.toList = ys := by simpa using k3
      exact ⟨cur', k1, by rw [hcur]; exact k2⟩
    obtain ⟨cur', hrep, hrun⟩ : ∃ cur' : Array Value, RepVals m γ rows.flatten cur'.toList ∧ (execOp a.eval ⟨dst, .buildSlice t len ps.toArray, ty, pos, after, guard⟩).run P w = .ok (.value (.slice (some ⟨w.heap.size, 0, none⟩) len len)) (w.alloc (.cells cur' e)) := by
      by_cases h0 : len * S = 0
      · obtain ⟨cur', k1, k2⟩ := key #[] (by simp [h0])
        refine ⟨cur', k2, ?_⟩
        have hb : (Instr.buildSlice t len (ps.map fun p => (p.1, a.eval p.2)).toArray).run P w = .ok (.slice (some ⟨w.heap.size, 0, none⟩) len len) (w.alloc (.cells cur' e)) := by
          simp only [Instr.buildSlice, Sem.run_bind, run_underlying hu, Result.andThen_ok, sizeOf, typeInfo, run_program, g1, Sem.run_pure, g2, gt_iff_lt, h0, if_true]
          have he : Array.map (fun x => (default : Value)) (Array.range 0) = #[] := Array.eq_empty_of_size_eq_zero (by simp)
          simp [newRow, he, k1]
        simp only [execOp, List.map_toArray, Sem.run_bind, hb, Result.andThen_ok, Sem.run_pure]
      · obtain ⟨cur', k1, k2⟩ := key ((Array.range (len * S)).map (z.cells[· % z.cells.size]!)) (by simp)
        refine ⟨cur', k2, ?_⟩
        have hb := run_buildSlice w t e len (ps.map fun p => (p.1, a.eval p.2)).toArray cur' inf z hu g1 hzz (by rw [g2]; omega) (by rw [g2]; exact h0) (by rw [g2]; exact k1)
        simp only [execOp, List.map_toArray, Sem.run_bind, hb, Result.andThen_ok, Sem.run_pure]
    obtain ⟨hl1, hl2⟩ := rowsOf_len hr
    have hcs : cur'.size = len * S := by
      have := repVals_length hrep
      rw [flatten_len hl2, hl1, hlen] at this
      simpa using this
    obtain ⟨k1, k2⟩ := inv_new hi (.cells cur' e) len (.row e S rows) (.inr ⟨w.heap.size, len, cur', by simp [addG], CA.of_plain (heap_alloc_new w _), hcs, by omega, hmax, hl2, by
      rw [List.take_of_length_le (by rw [Array.length_toList, hcs, hl1, hlen]; exact Nat.le_refl _)]
      exact reps_le0 (le_addG hi _ _) hrep, fun off => mem_fresh hi (Nat.le_refl _) off⟩)
    unfold Oper.wp
    rw [hrun, Oper.upon_value]
    refine hK m _ _ _ k2 (le_addG hi _ _) k1 ?_
    simp only [Rep]
    exact .inr ⟨w.heap.size, len, len, by simp [addG], by omega, Nat.le_refl _, by omega, .inl (by simp)⟩) kk

/-- make([]T, l, c) -/
theorem ev_makeSlice {t e : TypeId} {S B : Nat} {zs : List Value} {x y : Operand} {kl kc : IntKind} {a c : Int} (ht : slk P t = some (e, S, B)) (hz : zer P e = some zs) (hzl : zs.length = S) (hS : 0 < S) (hx : aeval L x = some (.v (.int kl a))) (hy : aeval L y = some (.v (.int kc c)))
    (h0 : 0 ≤ a) (h1 : a ≤ c) (hb : B * c.toNat ≤ 281474976710656) (hmax : c.toNat ≤ maxLen) (hg : Gd ops L guard gu) (hn : ∀ d, dst = some d → d < n)
    (kk : EvK P n ops l (updL L dst (.sr ob.length S 0 a.toNat) []) (ob ++ [.row e S (List.replicate a.toNat (zs.map .v))]) (fun recs => kf (⟨dst, gu ++ uses [(x, .v (.int kl a)), (y, .v (.int kc c))], .sr ob.length S 0 a.toNat, [], .write⟩ :: recs))) :
    EvK P n ops (⟨dst, .makeSlice t x y, ty, pos, after, guard⟩ :: l) L ob kf :=
  ev_any2 (o := ⟨dst, .makeSlice t x y, ty, pos, after, guard⟩) [] [(x, .v (.int kl a)), (y, .v (.int kc c))] ⟨hx, hy, trivial⟩ hg hn (fun m γ w ac K Q hi h hK => by
    obtain ⟨r1, r2, _⟩ := h
    simp only [Rep] at r1 r2
    obtain ⟨hu, inf, g1, g2, g3⟩ := slk_elem ht
    obtain ⟨z, hzz, hzc⟩ : ∃ z, inf.zero = some z ∧ z.cells.toList = zs := by
      unfold zer at hz
      rw [g1] at hz
      cases hzz : inf.zero with
      | none => simp [hzz] at hz
      | some z => refine ⟨z, rfl, ?_⟩; simp [hzz] at hz; exact hz
    have hzs : z.cells.size = S := by rw [← hzl, ← hzc]; simp
    have hbi : (inf.bytes : Int) * c ≤ 281474976710656 := by
      rw [g3]
      have h2 : ((B * c.toNat : Nat) : Int) ≤ 281474976710656 := by omega
      rw [Int.natCast_mul, Int.toNat_of_nonneg (by omega)] at h2
      exact h2
    have hrun := run_make (P := P) w t e inf z hu g1 hzz kl kc a c h0 h1 hbi (by unfold maxLen at hmax; omega)
    rw [g2] at hrun
    have hsz : (madeCells z.cells (c.toNat * S)).size = c.toNat * S := size_madeCells _ _
    have hle : a.toNat ≤ c.toNat := by omega
    have hmade : (madeCells z.cells (c.toNat * S)).toList.take (a.toNat * S) = (madeCells z.cells (a.toNat * S)).toList := by
      have hh : a.toNat * S ≤ c.toNat * S := Nat.mul_le_mul_right _ hle
      apply List.ext_getElem?
      intro i
      rw [List.getElem?_take]
      by_cases hi2 : i < a.toNat * S
      · simp [hi2, madeCells, show i < c.toNat * S by omega]
      · simp [hi2, madeCells]
    obtain ⟨k1, k2⟩ := inv_new hi (.cells (madeCells z.cells (c.toNat * S)) e) c.toNat (.row e S (List.replicate a.toNat (zs.map .v))) (.inr ⟨w.heap.size, c.toNat, _, by simp [addG], CA.of_plain (heap_alloc_new w _), hsz, by simpa using hle, hmax, fun r hr => by rw [(List.mem_replicate.1 hr).2]; simpa using hzl, by
      rw [List.length_replicate, hmade, ← hzc]
      exact repVals_made hzs hS _ _ rfl, fun off => mem_fresh hi (Nat.le_refl _) off⟩)
    refine upon_value' (v := .slice (some ⟨w.heap.size, 0, none⟩) a.toNat c.toNat) (w' := w.alloc (.cells (madeCells z.cells (c.toNat * S)) e)) ?_ (hK m _ _ _ k2 (le_addG hi _ _) k1 ?_)
    · simp [execOp, r1, r2, hrun]
    · simp only [Rep]
      exact .inr ⟨w.heap.size, c.toNat, c.toNat, by simp [addG], by omega, hle, by omega, .inl (by simp)⟩) kk

/-- s[i:i:i]: a slice of nothing, that can't grow in place -/
theorem ev_slice0 {x : Operand} {lo hi mo : Option Operand} {t e : TypeId} {S B p len : Nat} {av : AV} {xl xh xm : List (Operand × AV)} (ht : slk P t = some (e, S, B)) (hx : aeval L x = some av) (hlen : lenA av = some len) (hl : Bd L 0 lo p xl) (hh : Bd L 0 hi p xh) (hm : Bd L 0 mo p xm)
    (hs1 : (∃ h, hi = some h) ∧ ∃ h, mo = some h) (h1 : p ≤ len) (hg : Gd ops L guard gu) (hn : ∀ d, dst = some d → d < n)
    (kk : EvK P n ops l (updL L dst (.sr ob.length S 0 0) []) (ob ++ [.row e S []]) (fun recs => kf (⟨dst, gu ++ uses (xl ++ (xh ++ (xm ++ [(x, av)]))), .sr ob.length S 0 0, [], .write⟩ :: recs))) :
    EvK P n ops (⟨dst, .slice t x lo hi mo, ty, pos, after, guard⟩ :: l) L ob kf :=
  ev_any2 (o := ⟨dst, .slice t x lo hi mo, ty, pos, after, guard⟩) [] (xl ++ (xh ++ (xm ++ [(x, av)]))) (bd_all hl (bd_all hh (bd_all hm ⟨hx, trivial⟩))) hg hn (fun m γ w a K Q hi2 h hK => by
    obtain ⟨k1, h⟩ := bd_rep hl h
    obtain ⟨k2, h⟩ := bd_rep hh h
    obtain ⟨k3, h⟩ := bd_rep hm h
    have h5 := h.1
    obtain ⟨⟨hi', rfl⟩, ⟨mo', rfl⟩⟩ := hs1
    obtain ⟨ad, cap, e1, e2⟩ : ∃ ad cap, a.eval x = .slice ad len cap ∧ len ≤ cap := by
      cases av with
      | sl S' rows => simp only [lenA, Option.some.injEq] at hlen; simp only [Rep] at h5; obtain ⟨ad, ln, cap, e1, e2, e3, _⟩ := h5; subst hlen; subst e2; exact ⟨ad, cap, e1, e3⟩
      | sr o S' lo' len' =>
        simp only [lenA, Option.some.injEq] at hlen
        subst hlen
        simp only [Rep] at h5
        rcases h5 with ⟨_, ⟨ad, e⟩, _, e2⟩ | ⟨b, C, cap, _, _, q, _, (e | ⟨e0, _, ad, e⟩)⟩
        · exact ⟨ad, 0, by rw [e, e2], by omega⟩
        · exact ⟨_, cap, e, q⟩
        · exact ⟨ad, cap, by rw [e0]; exact e, q⟩
      | v y =>
        simp only [Rep] at h5
        cases y with
        | slice ad ln cap =>
          simp only [lenA] at hlen
          cases hb : Nat.ble ln cap with
          | false => simp [hb] at hlen
          | true =>
            simp only [hb, cond_true, Option.some.injEq] at hlen
            subst hlen
            exact ⟨ad, cap, h5, Nat.le_of_ble_eq_true hb⟩
        | _ => simp [lenA] at hlen
      | _ => simp [lenA] at hlen
    have hr := run_piece (P := P) ht w ad len cap p p p (lo.map a.eval) (some (a.eval hi')) (some (a.eval mo')) (by
      rcases k1 with ⟨rfl, rfl⟩ | ⟨o, q', rfl, hq⟩
      · exact .inl ⟨rfl, rfl⟩
      · exact .inr ⟨q', by simp [hq]⟩) (by
      rcases k2 with ⟨h, _⟩ | ⟨o, q', h, hq⟩
      · cases h
      · cases h; exact .inr ⟨q', by rw [hq]⟩) (by
      rcases k3 with ⟨h, _⟩ | ⟨o, q', h, hq⟩
      · cases h
      · cases h; exact .inr ⟨q', by rw [hq]⟩) (Nat.le_refl _) (Nat.le_refl _) (by omega)
    obtain ⟨i1, i2, i3⟩ := inv_virtual hi2 e S
    refine upon_value' (v := .slice ad 0 0) (w' := w) ?_ (hK m _ w _ i2 i3 i1 ?_)
    · simp only [execOp, e1, Option.map_some, Sem.run_bind, hr, Result.andThen_ok, Sem.run_pure, if_true, Nat.sub_self]
    · simp [Rep]) kk
/-- append of so many zero elements (in the text: of a 'make') to nil -/
theorem zeroCells_made (z : Array Value) (k : Nat) : Builtin.zeroCells z k = madeCells z (k * z.size) := rfl
theorem run_append_zeros {w : World} {t tx ty e : TypeId} {i : TypeInfo} {z : Value} {kd : IntKind} (ht : P.underlying t = some (.slice e)) (hk : P.underlying tx = some (.int kd)) (hi : P.info? e = some i) (hz : i.zero = some z) {k : Nat} (hk0 : 0 < k) (hS : 0 < i.size) (hmax : k ≤ 9223372036854775807) (hb : k * i.bytes ≤ 140737488355328) :
    (Builtin.append_ #[t, tx] ty #[.slice none 0 0, .int .i64 k]).run P w = .ok (.slice (some ⟨w.heap.size, 0, none⟩) k (grownCap w k 0 e)) (w.drew.alloc (.cells (Builtin.zeroCells z.cells k ++ Builtin.zeroCells z.cells (grownCap w k 0 e - k)) e)) := by
  have hwr : IntKind.i64.wrap (k : Int) = k := wrap_i64 (by omega) (by omega)
  have h1 : ¬ ((k : Int) < 0) := by omega
  have h2 : ¬ (281474976710656 < (k : Int) * (i.bytes : Int)) := by
    have : ((k * i.bytes : Nat) : Int) ≤ 140737488355328 := by omega
    rw [Int.natCast_mul] at this
    omega
  have h3 : ¬ (9223372036854775807 < (k : Int)) := by omega
  have h4 : ¬ (281474976710656 < Builtin.nextslicecap k 0 * i.bytes) := by
    have := growslice_fits (need := k) (old := 0) hk0 hb
    omega
  have h5 : ¬ (k = 0) := by omega
  have h6 : ¬ (i.size = 0) := by omega
  simp [Builtin.append_, run_underlying ht, run_underlying hk, sizeOf, typeInfo, zeroValue, hi, hz, asInt, asIntOf, hwr, h1, h2, h3, h4, h5, Question.forced, newRow, grownCap, Builtin.firstCells]
  intro h
  rcases Nat.mul_eq_zero.1 h with h | h
  · exact absurd h h5
  · exact absurd h h6
theorem ev_appendZ {t tx e : TypeId} {S B : Nat} {kd : IntKind} {zs : List Value} {x y : Operand} {k : Nat} (ht : slk P t = some (e, S, B)) (htx : P.underlying tx = some (.int kd)) (hz : zer P e = some zs) (hzl : zs.length = S) (hS : 0 < S) (hx : aeval L x = some (.v (.slice none 0 0))) (hy : aeval L y = some (.v (.int .i64 k)))
    (hk0 : 0 < k) (hb : k * B ≤ 140737488355328) (hmax : k ≤ 9223372036854775807) (hg : Gd ops L guard gu) (hn : ∀ d, dst = some d → d < n)
    (kk : EvK P n ops l (updL L dst (.sr ob.length S 0 k) []) (ob ++ [.row e S (List.replicate k (zs.map .v))]) (fun recs => kf (⟨dst, gu ++ uses [(x, .v (.slice none 0 0)), (y, .v (.int .i64 k))], .sr ob.length S 0 k, [], .write⟩ :: recs))) :
    EvK P n ops (⟨dst, .call ⟨.builtin .append, #[x, y], #[t, tx]⟩, ty, pos, after, guard⟩ :: l) L ob kf :=
  ev_any2 (o := ⟨dst, .call ⟨.builtin .append, #[x, y], #[t, tx]⟩, ty, pos, after, guard⟩) [] [(x, .v (.slice none 0 0)), (y, .v (.int .i64 k))] ⟨hx, hy, trivial⟩ hg hn (fun m γ w ac K Q hi h hK => by
    obtain ⟨r1, r2, _⟩ := h
    simp only [Rep] at r1 r2
    obtain ⟨hu, inf, g1, g2, g3⟩ := slk_elem ht
    obtain ⟨z, hzz, hzc⟩ : ∃ z, inf.zero = some z ∧ z.cells.toList = zs := by
      unfold zer at hz
      rw [g1] at hz
      cases hzz : inf.zero with
      | none => simp [hzz] at hz
      | some z => refine ⟨z, rfl, ?_⟩; simp [hzz] at hz; exact hz
    have hzs : z.cells.size = S := by rw [← hzl, ← hzc]; simp
    obtain ⟨hid, htd⟩ := inv_drew hi
    have hge := grownCap_ge w k 0 e
    have hrun := run_append_zeros (P := P) (w := w) (t := t) (tx := tx) (ty := ty) hu htx g1 hzz hk0 (by rw [g2]; exact hS) hmax (by rw [g3]; exact hb)
    have hsz : (Builtin.zeroCells z.cells k ++ Builtin.zeroCells z.cells (grownCap w k 0 e - k)).size = grownCap w k 0 e * S := by
      rw [Array.size_append, size_zeroCells, size_zeroCells, hzs, ← Nat.add_mul]
      congr 1; omega
    obtain ⟨k1, k2⟩ := inv_new hid (.cells (Builtin.zeroCells z.cells k ++ Builtin.zeroCells z.cells (grownCap w k 0 e - k)) e) (grownCap w k 0 e) (.row e S (List.replicate k (zs.map .v))) (.inr ⟨w.heap.size, grownCap w k 0 e, _, by simp [addG], CA.of_plain (heap_alloc_new w.drew _), hsz, by simpa using hge, grownCap_le_maxLen w k 0 e (by unfold maxLen; omega), fun r hr => by rw [(List.mem_replicate.1 hr).2]; simpa using hzl, by
      rw [List.length_replicate, Array.toList_append]
      have hl : (Builtin.zeroCells z.cells k).toList.length = k * S := by rw [Array.length_toList, size_zeroCells, hzs]
      rw [← hl, List.take_left, zeroCells_made, hzs, ← hzc]
      exact repVals_made hzs hS _ _ rfl, fun off => mem_fresh hi (Nat.le_refl _) off⟩)
    refine upon_value' (v := .slice (some ⟨w.heap.size, 0, none⟩) k (grownCap w k 0 e)) (w' := w.drew.alloc _) ?_ (hK m _ _ _ (htd.trans k2) (le_addG hid _ _) k1 ?_)
    · simp [execOp, resolve, invoke, builtin, r1, r2, hrun]
    · simp only [Rep]
      exact .inr ⟨w.heap.size, grownCap w k 0 e, grownCap w k 0 e, by simp [addG], by omega, hge, by omega, .inl (by simp)⟩) kk
end
end Go.Am
