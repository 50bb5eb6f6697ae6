/- Trees that are handed in, as they stand in memory. -/
import Derived.Test.YtobehholoenaiaaGreatDoorTQ
import Derived.Test.YtobehholoenaiaaGreatDoorAmV
import Derived.DataElems
import Derived.WalkKit
import Derived.ProofKit
import Derived.OpenShut
import Derived.Deep.DeepHandedRow
import Derived.Lib.LaidTab
namespace Go.Proofs.YtobehholoenaiaaGreatDoor
open Go.ChangeShapes Go.WideShapes Go.ChangeAt Go.RowKit Go.Am
section
variable {P : Program} {H : Type} {enc : TypeId × Value → H} {W : World} {hW : ∀ a x, glob a = some x → W.cell? a = some x} {base : Nat} {v : Value} {d : DataW H} {p : List MemPlace}
theorem cells_get {a : Addr} {n : Nat} {cs : List Value} (h : W.cells? 0 a n = some cs) : cs.length = n ∧ ∀ j, j < n → W.cell? (a.add j) = cs[j]? := by
  simp only [World.cells?, Nat.zero_le, if_true] at h
  exact ⟨by simpa using mapM_some_length h, fun j hj => mapM_some_get h j j (by simp [hj])⟩
theorem repVals_at {m : Mem} {γ : Gam} {avs : List AV} {xs : List Value} (h : RepVals m γ avs xs) (j : Nat) (c : AV) (hc : avs[j]? = some c) : ∃ x, xs[j]? = some x ∧ Rep m γ c x := repVals_get h j c hc
/-- a row of things that are read one by one -/
theorem row_rep {α : Type} {f : α → List AV} {S : Nat} {Q : α → Prop} {a : Addr} {len cap : Nat} (hlc : len ≤ cap) (hS : 0 < S) (hf : ∀ x, (f x).length = S)
    (each : ∀ i, i < len → ∃ (x : α) (cs : List Value), Q x ∧ RepVals (memOf W hW) (fun _ => none) (f x) cs ∧ cs.length = S ∧ ∀ j, j < S → W.cell? ((a.add (i * S)).add j) = cs[j]?) :
    ∃ l : List α, l.length = len ∧ (∀ x ∈ l, Q x) ∧ Rep (memOf W hW) (fun _ => none) (.sl S (l.map f)) (.slice (some a) len cap) := by
  have hall : ∀ k, k ≤ len → ∃ l : List α, l.length = k ∧ (∀ x ∈ l, Q x) ∧ ∀ i x, l[i]? = some x → ∃ cs : List Value, RepVals (memOf W hW) (fun _ => none) (f x) cs ∧ cs.length = S ∧ ∀ j, j < S → W.cell? ((a.add (i * S)).add j) = cs[j]? := by
    intro k
    induction k with
    | zero => intro _; exact ⟨[], rfl, by simp, by simp⟩
    | succ k ih =>
      intro hk
      obtain ⟨l, h1, h2, h3⟩ := ih (by omega)
      obtain ⟨x, cs, hq, hx⟩ := each k (by omega)
      refine ⟨l ++ [x], by simp [h1], fun y hy => ?_, fun i u hu => ?_⟩
      · rcases List.mem_append.1 hy with hy | hy
        · exact h2 y hy
        · simp at hy; subst hy; exact hq
      · by_cases hi : i < l.length
        · rw [List.getElem?_append_left hi] at hu; exact h3 i u hu
        · rw [List.getElem?_append_right (by omega)] at hu
          have hil : i = l.length := by
            have := (List.getElem?_eq_some_iff.1 hu).1
            simp at this; omega
          subst hil
          simp at hu
          subst hu
          rw [h1]; exact ⟨cs, hx⟩
  obtain ⟨l, hll, hq, hlc2⟩ := hall len (Nat.le_refl _)
  refine ⟨l, hll, hq, ?_⟩
  simp only [Rep]
  refine ⟨some a, len, cap, rfl, by simp; omega, hlc, ?_⟩
  by_cases h0 : len = 0
  · left
    have : l = [] := List.eq_nil_of_length_eq_zero (by omega)
    rw [this]; rfl
  · right
    obtain ⟨x0, hx0⟩ : ∃ x, l[0]? = some x := ⟨_, List.getElem?_eq_getElem (by omega)⟩
    obtain ⟨cs0, hr0, hl0, hc0⟩ := hlc2 0 x0 hx0
    obtain ⟨ab, ao, spot⟩ := a
    have hspot : spot = none := by
      have h1 := hc0 0 hS
      rw [List.getElem?_eq_getElem (by omega)] at h1
      simpa [Addr.add] using World.cell?_spot h1
    subst hspot
    refine ⟨ab, ao, rfl, repRows_of_get fun i r hr => ?_⟩
    rw [List.getElem?_map] at hr
    cases hti : l[i]? with
    | none => rw [hti] at hr; cases hr
    | some x =>
      rw [hti] at hr
      simp only [Option.map_some, Option.some.injEq] at hr
      subst hr
      obtain ⟨cs, h1, h2, h3⟩ := hlc2 i x hti
      refine ⟨hf x, repCells_of_get fun j c hcj => ?_⟩
      have hj : j < S := by have := (List.getElem?_eq_some_iff.1 hcj).1; rw [hf] at this; exact this
      obtain ⟨y, hy, hry⟩ := repVals_at h1 j c hcj
      have := h3 j hj
      rw [Addr.add_lit, Addr.add_lit, hy] at this
      exact ⟨y, this, hry⟩
theorem ints_rep {t e : TypeId} (ht : P.underlying t = some (.slice e)) (he : P.underlying e = some (.int .i64)) (hc : P.cellsOf e = 1)
    (hval : Value.okWide P W .any base t v) (h : DataW.Trod enc P W 0 (fun _ => true) true t v d p) :
    ∃ l : List Int, l.length ≤ 9223372036854775807 ∧ Rep (memOf W hW) (fun _ => none) (.sl 1 (l.map fun z => [I z])) v := by
  obtain ⟨a1, len, cap, rfl⟩ := okWide_slice ht hval
  obtain ⟨fuel, hf⟩ := h
  rcases DataW.trod_slice ht hf with ⟨hcs, _⟩ | ⟨a, len', cap', elems, rest, n, _, hcs, _, _, hl, hm, hlen, hel, _, _⟩
  · simp [Value.cells] at hcs
    obtain ⟨rfl, rfl, rfl⟩ := hcs
    exact ⟨[], by simp, by simp only [Rep]; exact ⟨none, 0, 0, rfl, rfl, Nat.le_refl _, .inl rfl⟩⟩
  · simp [Value.cells] at hcs
    obtain ⟨rfl, rfl, rfl⟩ := hcs
    obtain ⟨l, h1, _, h3⟩ := row_rep (S := 1) (f := fun (z : Int) => [I z]) (Q := fun _ => True) (hW := hW) (a := a) hl (by omega) (fun _ => rfl) fun i hi => by
      have h1 := hel i hi
      rw [hc, List.getElem?_eq_getElem (by omega)] at h1
      simp only [Option.bind_eq_some_iff] at h1
      obtain ⟨cs, h2, h3⟩ := h1
      obtain ⟨hcl, hcell⟩ := cells_get h2
      obtain ⟨z, rfl, _⟩ := DataW.trod_int he h3
      exact ⟨z, [.int .i64 z], trivial, by simp [RepVals, Rep], rfl, hcell⟩
    have : cap ≤ 9223372036854775807 := hm
    exact ⟨l, by omega, h3⟩
/-- what a tree's struct is made of -/
structure TreeTy (P : Program) (T L : TypeId) : Prop where
  sl : P.underlying L = some (.slice T)
  str : ∃ f0 f1 f2 f3 f4 f5 f6 : Field, P.underlying T = some (.struct #[f0, f1, f2, f3, f4, f5, f6]) ∧ (f0.offset = 0 ∧ P.underlying f0.type = some (.int .i8) ∧ P.cellsOf f0.type = 1) ∧ (f1.offset = 1 ∧ P.underlying f1.type = some (.int .i64) ∧ P.cellsOf f1.type = 1) ∧
    (f2.offset = 2 ∧ P.underlying f2.type = some (.int .i64) ∧ P.cellsOf f2.type = 1) ∧ (f3.offset = 3 ∧ P.underlying f3.type = some (.int .i64) ∧ P.cellsOf f3.type = 1) ∧ (f4.offset = 4 ∧ P.underlying f4.type = some (.int .i64) ∧ P.cellsOf f4.type = 1) ∧
    (f5.offset = 5 ∧ P.underlying f5.type = some .bool ∧ P.cellsOf f5.type = 1) ∧ (f6.offset = 6 ∧ f6.type = L ∧ P.cellsOf f6.type = 1)
  cells : P.cellsOf T = 7
theorem cells_len : ∀ t : Tr, (cells t).length = 7
  | .mk .. => rfl
theorem fits_of {l : List Tr} (h : ∀ u ∈ l, Fit u) : Fits l := by
  induction l with
  | nil => simp [Fits]
  | cons a l ih => simp only [Fits]; exact ⟨h a (by simp), ih fun u hu => h u (by simp [hu])⟩
theorem tree_rows {T L : TypeId} (K : TreeTy P T L) (hW : ∀ a x, glob a = some x → W.cell? a = some x) : ∀ (fuel : Nat) (cs : List Value) (x : DataW H × List MemPlace), DataW.trod enc P W 0 (fun _ => true) true fuel T cs = some x → ∃ t : Tr, Fit t ∧ RepVals (memOf W hW) (fun _ => none) (cells t) cs := by
  intro fuel
  induction fuel using Nat.strongRecOn with
  | ind fuel ih =>
  intro cs x h
  obtain ⟨f0, f1, f2, f3, f4, f5, f6, hst, ⟨o0, u0, s0⟩, ⟨o1, u1, s1⟩, ⟨o2, u2, s2⟩, ⟨o3, u3, s3⟩, ⟨o4, u4, s4⟩, ⟨o5, u5, s5⟩, ⟨o6, u6, s6⟩⟩ := K.str
  obtain ⟨ys, n, hfu, _, hlen, hys, hfl⟩ := DataW.trod_struct hst h
  have hys' : ys.length = 7 := hys
  have hcl : cs.length = 7 := by rw [hlen, K.cells]
  have at' : ∀ (i : Nat) (f : Field), #[f0, f1, f2, f3, f4, f5, f6][i]? = some f → f.offset = i → P.cellsOf f.type = 1 → i < 7 → ∃ (c : Value) (y : DataW H × List MemPlace), cs[i]? = some c ∧ DataW.trod enc P W 0 (fun _ => true) true n f.type [c] = some y := by
    intro i f hfi ho hcf hi7
    have := hfl i f hfi
    rw [ho, hcf, List.getElem?_eq_getElem (show i < ys.length by omega)] at this
    obtain ⟨c, hc⟩ : ∃ c, cs[i]? = some c := ⟨_, List.getElem?_eq_getElem (by omega)⟩
    have ht : (cs.drop i).take 1 = [c] := by
      rw [List.take_one]
      simp [hc]
    rw [ht] at this
    exact ⟨c, _, hc, this⟩
  obtain ⟨c0, _, e0, t0⟩ := at' 0 f0 rfl o0 s0 (by omega)
  obtain ⟨c1, _, e1, t1⟩ := at' 1 f1 rfl o1 s1 (by omega)
  obtain ⟨c2, _, e2, t2⟩ := at' 2 f2 rfl o2 s2 (by omega)
  obtain ⟨c3, _, e3, t3⟩ := at' 3 f3 rfl o3 s3 (by omega)
  obtain ⟨c4, _, e4, t4⟩ := at' 4 f4 rfl o4 s4 (by omega)
  obtain ⟨c5, _, e5, t5⟩ := at' 5 f5 rfl o5 s5 (by omega)
  obtain ⟨c6, _, e6, t6⟩ := at' 6 f6 rfl o6 s6 (by omega)
  obtain ⟨k, h0, _⟩ := DataW.trod_int u0 t0
  obtain ⟨r, h1, _⟩ := DataW.trod_int u1 t1
  obtain ⟨a, h2, _⟩ := DataW.trod_int u2 t2
  obtain ⟨tok, h3, _⟩ := DataW.trod_int u3 t3
  obtain ⟨ty, h4, _⟩ := DataW.trod_int u4 t4
  obtain ⟨op, h5, _⟩ := DataW.trod_bool u5 t5
  simp only [List.cons.injEq, and_true] at h0 h1 h2 h3 h4 h5
  have hcs : cs = [c0, c1, c2, c3, c4, c5, c6] := by
    apply List.ext_getElem?
    intro i
    match i with
    | 0 => exact e0
    | 1 => exact e1
    | 2 => exact e2
    | 3 => exact e3
    | 4 => exact e4
    | 5 => exact e5
    | 6 => exact e6
    | i + 7 => rw [List.getElem?_eq_none (by omega), List.getElem?_eq_none (by simp)]
  have kidsR : ∃ l : List Tr, l.length ≤ 9223372036854775807 ∧ (∀ u ∈ l, Fit u) ∧ Rep (memOf W hW) (fun _ => none) (.sl 7 (rowsT l)) c6 := by
    rw [u6] at t6
    rcases DataW.trod_slice K.sl t6 with ⟨hc, _⟩ | ⟨ad, len, cap, elems, rest, n2, hn2, hc, _, _, hl, hm, hle, hel, _, _⟩
    · simp at hc; subst hc
      exact ⟨[], by simp, by simp, by simp only [Rep, rowsT]; exact ⟨none, 0, 0, rfl, rfl, Nat.le_refl _, .inl trivial⟩⟩
    · simp at hc; subst hc
      obtain ⟨l, k1, k2, k3⟩ := row_rep (f := cells) (Q := Fit) (hW := hW) (a := ad) hl (by omega : 0 < 7) cells_len fun i hi => by
        have h1 := hel i hi
        rw [K.cells, List.getElem?_eq_getElem (by omega)] at h1
        simp only [Option.bind_eq_some_iff] at h1
        obtain ⟨cs, h2, h3⟩ := h1
        obtain ⟨hcl, hcell⟩ := cells_get h2
        obtain ⟨t, q1, q2⟩ := ih n2 (by omega) cs _ h3
        exact ⟨t, cs, q1, q2, hcl, hcell⟩
      have : cap ≤ 9223372036854775807 := hm
      exact ⟨l, by omega, k2, by rw [rowsT_map]; exact k3⟩
  obtain ⟨l, k1, k2, k3⟩ := kidsR
  refine ⟨.mk k r a tok ty op l, by simp only [Fit]; exact ⟨k1, fits_of k2⟩, ?_⟩
  subst hcs
  subst h0; subst h1; subst h2; subst h3; subst h4; subst h5
  simp only [cells, RepVals]
  exact ⟨_, _, rfl, rfl, _, _, rfl, rfl, _, _, rfl, rfl, _, _, rfl, rfl, _, _, rfl, rfl, _, _, rfl, rfl, _, _, rfl, k3, rfl⟩
theorem tree_rep {T L : TypeId} (K : TreeTy P T L) (hW : ∀ a x, glob a = some x → W.cell? a = some x) (hval : Value.okWide P W .any base T v) (h : DataW.Trod enc P W 0 (fun _ => true) true T v d p) : ∃ t : Tr, Fit t ∧ Rep (memOf W hW) (fun _ => none) (tv t) v := by
  obtain ⟨f0, f1, f2, f3, f4, f5, f6, hst, _⟩ := K.str
  obtain ⟨cs, rfl, _⟩ := okWide_struct hst hval
  obtain ⟨fuel, hf⟩ := h
  obtain ⟨t, h1, h2⟩ := tree_rows K hW fuel _ _ hf
  refine ⟨t, h1, ?_⟩
  simp only [tv, Rep]
  exact ⟨_, by simp [Value.cells], h2⟩
end
end Go.Proofs.YtobehholoenaiaaGreatDoor
