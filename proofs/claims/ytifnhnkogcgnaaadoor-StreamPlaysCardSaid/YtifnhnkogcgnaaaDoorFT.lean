/- Where the row's tables read as they are laid, their cells are what the abstract machine knows of them; bytes and tokens that are handed in, as rows. -/
import Derived.Test.YtifnhnkogcgnaaaDoorE5
import Derived.Test.YtifnhnkogcgnaaaDoorAmV
import Derived.WalkKit
import Derived.ProofKit
import Derived.OpenShut
import Derived.Deep.DeepHandedRow
import Derived.ChangeSlices
import Derived.LaidLaws
namespace Go.Proofs.YtifnhnkogcgnaaaDoor
open Go.ChangeShapes Go.WideShapes Go.ChangeAt Go.RowKit Go.Am
section
variable {H : Type} {enc : TypeId × Value → H} {P : Program} {w : World} {base : Nat} {spare : Nat → Bool} {held : Bool} {fuel : Nat} {t e : TypeId} {cs : List Value} {p : List MemPlace}
theorem take_one {cs : List Value} {i : Nat} {v : Value} (h : (cs.drop i).take 1 = [v]) : cs[i]? = some v := by
  have : ((cs.drop i).take 1)[0]? = some v := by rw [h]; rfl
  rw [List.getElem?_take, if_pos (by omega), List.getElem?_drop] at this
  simpa using this
theorem arr_ints {n : Nat} {k : IntKind} {zs : List Nat} (ht : P.underlying t = some (.array n e)) (he : P.underlying e = some (.int k)) (hc : P.cellsOf e = 1) (hn : zs.length = n)
    (h : DataW.trod enc P w base spare held fuel t cs = some (.agg (zs.map fun (z : Nat) => .lit (.int k z)), p)) : ∀ (i z : Nat), zs[i]? = some z → cs[i]? = some (Value.int k (z : Nat)) := by
  obtain ⟨xs, m, _, hx, hl, hxl, hel⟩ := DataW.trod_array ht h
  simp only [Prod.mk.injEq, DataW.agg.injEq] at hx
  intro i z hz
  have hi : i < n := by rw [← hn]; exact (List.getElem?_eq_some_iff.1 hz).1
  have hd := hel i hi
  rw [hc, Nat.mul_one, List.getElem?_eq_getElem (by omega)] at hd
  obtain ⟨u, h1, h2, _⟩ := DataW.trod_int he hd
  have h3 : (xs.map (·.1))[i]? = some (.lit (.int k (z : Nat))) := by rw [← hx.1, List.getElem?_map, hz]; rfl
  rw [List.getElem?_map, List.getElem?_eq_getElem (by omega)] at h3
  simp only [Option.map_some, Option.some.injEq] at h3
  rw [h2] at h3
  simp only [DataW.lit.injEq, Lit.int.injEq, true_and] at h3
  rw [← h3]
  exact take_one h1
theorem arr_pairs {n : Nat} {k : IntKind} {f0 f1 : Field} {zs : List (Nat × Nat)} (ht : P.underlying t = some (.array n e)) (he : P.underlying e = some (.struct #[f0, f1])) (hc : P.cellsOf e = 2) (h0 : f0.offset = 0) (h1 : f1.offset = 1)
    (u0 : P.underlying f0.type = some (.int k)) (u1 : P.underlying f1.type = some (.int k)) (c0 : P.cellsOf f0.type = 1) (c1 : P.cellsOf f1.type = 1) (hn : zs.length = n)
    (h : DataW.trod enc P w base spare held fuel t cs = some (.agg (zs.map fun z => .agg [.lit (.int k z.1), .lit (.int k z.2)]), p)) : ∀ (i : Nat) (z : Nat × Nat), zs[i]? = some z → cs[i * 2]? = some (Value.int k (z.1 : Nat)) ∧ cs[i * 2 + 1]? = some (Value.int k (z.2 : Nat)) := by
  obtain ⟨xs, m, _, hx, hl, hxl, hel⟩ := DataW.trod_array ht h
  simp only [Prod.mk.injEq, DataW.agg.injEq] at hx
  intro i z hz
  have hi : i < n := by rw [← hn]; exact (List.getElem?_eq_some_iff.1 hz).1
  have hd := hel i hi
  rw [hc, List.getElem?_eq_getElem (by omega)] at hd
  obtain ⟨ys, m', _, hy, hyl, hys, hf⟩ := DataW.trod_struct he hd
  have h3 : (xs.map (·.1))[i]? = some (.agg [.lit (.int k (z.1 : Nat)), .lit (.int k (z.2 : Nat))]) := by rw [← hx.1, List.getElem?_map, hz]; rfl
  rw [List.getElem?_map, List.getElem?_eq_getElem (by omega)] at h3
  simp only [Option.map_some, Option.some.injEq] at h3
  rw [hy] at h3
  simp only [DataW.agg.injEq] at h3
  have hys' : ys.length = 2 := hys
  obtain ⟨y0, y1, rfl⟩ : ∃ a b, ys = [a, b] := by
    match ys, hys' with
    | [a, b], _ => exact ⟨a, b, rfl⟩
  have d0 := hf 0 f0 rfl
  have d1 := hf 1 f1 rfl
  rw [h0, c0] at d0
  rw [h1, c1] at d1
  obtain ⟨a, a1, a2, _⟩ := DataW.trod_int u0 d0
  obtain ⟨b, b1, b2, _⟩ := DataW.trod_int u1 d1
  simp only [List.map_cons, List.map_nil, List.cons.injEq, and_true, a2, b2, DataW.lit.injEq, Lit.int.injEq, true_and] at h3
  obtain ⟨e1, e2⟩ := h3
  have g0 := take_one a1
  have g1 := take_one b1
  rw [List.getElem?_take, if_pos (by omega), List.getElem?_drop] at g0 g1
  exact ⟨by rw [← e1]; simpa using g0, by rw [← e2]; exact g1⟩
end
def ranges : List (Nat × Nat) := [(128, 191), (160, 191), (128, 159), (144, 191), (128, 143), (0, 0), (0, 0), (0, 0), (0, 0), (0, 0), (0, 0), (0, 0), (0, 0), (0, 0), (0, 0), (0, 0)]
theorem numbers_eq (k : IntKind) (l : List Nat) : Pinned.numbers k l = l.map fun (z : Nat) => (DataW.lit (.int k z) : DataW Unit) := by
  induction l with
  | nil => rfl
  | cons a l ih => simp [Pinned.numbers]
set_option maxRecDepth 100000 in
/-- THE TABLES ARE KNOWN. -/
theorem tabs_known {w : World} (h : laidMet Tryd.prog [("unicode/utf8.acceptRanges", Rows.laid_unicode_utf8_acceptRanges), ("unicode/utf8.first", Rows.laid_unicode_utf8_first)] w) : ∀ a x, glob a = some x → w.cell? a = some x := by
  obtain ⟨ps, hv, _, _⟩ := h
  obtain ⟨g2, t2, c2, f2, p2, q2, a1, a2, a3, a4, ⟨g1, t1, c1, f1, p1, q1, b1, b2, b3, b4, _, _⟩, _⟩ := hv
  have hg2 : Tryd.prog.globalNamed "unicode/utf8.acceptRanges" = some 2 := by kernel_rfl
  have hg1 : Tryd.prog.globalNamed "unicode/utf8.first" = some 1 := by kernel_rfl
  rw [hg2] at a1; cases a1
  rw [hg1] at b1; cases b1
  have ht2 : (Tryd.prog.globals[2]?).map (·.type) = some 103 := by kernel_rfl
  have ht1 : (Tryd.prog.globals[1]?).map (·.type) = some 100 := by kernel_rfl
  rw [ht2] at a2; cases a2
  rw [ht1] at b2; cases b2
  have k2 := World.var?_cell hg2 a3
  have k1 := World.var?_cell hg1 b3
  have n1 := arr_ints (zs := Go.Pinned.utf8FirstZ) (n := 256) (e := 5) (by kernel_rfl) (by kernel_rfl) (by kernel_rfl) (by kernel_rfl) (by rw [← numbers_eq]; exact b4)
  obtain ⟨F0, F1, hst, o0, o1, v0, v1, s0, s1⟩ : ∃ F0 F1 : Field, Tryd.prog.underlying 102 = some (.struct #[F0, F1]) ∧ F0.offset = 0 ∧ F1.offset = 1 ∧ Tryd.prog.underlying F0.type = some (.int .u8) ∧ Tryd.prog.underlying F1.type = some (.int .u8) ∧ Tryd.prog.cellsOf F0.type = 1 ∧ Tryd.prog.cellsOf F1.type = 1 :=
    ⟨⟨ "lo", 5, 0, false, "", "unicode/utf8", 0⟩, ⟨ "hi", 5, 1, false, "", "unicode/utf8", 1⟩, by kernel_rfl, rfl, rfl, by kernel_rfl, by kernel_rfl, by kernel_rfl, by kernel_rfl⟩
  have n2 := arr_pairs (zs := ranges) (n := 16) (e := 102) (by kernel_rfl) hst (by kernel_rfl) o0 o1 v0 v1 s0 s1 (by kernel_rfl) (show DataW.trod _ _ _ _ _ _ _ _ _ = some (DataW.agg (ranges.map fun z => DataW.agg [.lit (.int .u8 z.1), .lit (.int .u8 z.2)]), p2) from a4)
  rintro ⟨b, off, spot⟩ x hx
  cases spot with
  | some s => cases hx
  | none =>
    simp only [glob] at hx
    cases ht : tabs.lookup b with
    | none => rw [ht] at hx; cases hx
    | some cs =>
      rw [ht] at hx
      simp only at hx
      by_cases e1 : b = 1
      · subst e1
        have : tabs.lookup 1 = some (Go.Pinned.utf8FirstZ.map fun (n : Nat) => Value.int .u8 n) := rfl
        rw [this] at ht
        cases ht
        rw [List.getElem?_map] at hx
        cases hz : Go.Pinned.utf8FirstZ[off]? with
        | none => rw [hz] at hx; cases hx
        | some z =>
          rw [hz] at hx
          cases hx
          rw [k1 off]
          have := n1 off z hz
          simpa using this
      · by_cases e2 : b = 2
        · subst e2
          have hl : tabs.lookup 2 = some (ranges.flatMap fun z => [Value.int .u8 (z.1 : Nat), Value.int .u8 (z.2 : Nat)]) := rfl
          rw [hl] at ht
          cases ht
          rw [k2 off]
          have key : ∀ (l : List (Nat × Nat)) (o : Nat) (x : Value), (l.flatMap fun z => [Value.int .u8 (z.1 : Nat), Value.int .u8 (z.2 : Nat)])[o]? = some x → ∃ z, l[o / 2]? = some z ∧ ((o % 2 = 0 ∧ x = .int .u8 (z.1 : Nat)) ∨ (o % 2 = 1 ∧ x = .int .u8 (z.2 : Nat))) := by
            intro l
            induction l with
            | nil => intro o x h; simp at h
            | cons z l ih =>
              intro o x h
              match o with
              | 0 => simp at h; exact ⟨z, by simp, .inl ⟨rfl, h.symm⟩⟩
              | 1 => simp at h; exact ⟨z, by simp, .inr ⟨rfl, h.symm⟩⟩
              | o + 2 =>
                obtain ⟨y, h1, h2⟩ := ih o x (by simpa using h)
                exact ⟨y, by rw [show (o + 2) / 2 = o / 2 + 1 from by omega]; simpa using h1, by rw [show (o + 2) % 2 = o % 2 from by omega]; exact h2⟩
          obtain ⟨z, z1, z2⟩ := key _ _ _ hx
          obtain ⟨m1, m2⟩ := n2 _ _ z1
          rcases z2 with ⟨r, rfl⟩ | ⟨r, rfl⟩
          · rw [show off / 2 * 2 = off from by omega] at m1
            simpa using m1
          · rw [show off / 2 * 2 + 1 = off from by omega] at m2
            simpa using m2
        · exfalso
          have : tabs.lookup b = none := by
            simp only [tabs, List.lookup]
            have q1 : (b == 1) = false := by simpa using e1
            have q2 : (b == 2) = false := by simpa using e2
            rw [q1, q2]
          rw [this] at ht; cases ht
end Go.Proofs.YtifnhnkogcgnaaaDoor
