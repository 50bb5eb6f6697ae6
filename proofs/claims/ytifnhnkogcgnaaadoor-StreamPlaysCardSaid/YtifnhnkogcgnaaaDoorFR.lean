/- Bytes and tokens that are handed in, as rows of memory. -/
import Derived.Test.YtifnhnkogcgnaaaDoorFT
import Derived.DataElems
namespace Go.Proofs.YtifnhnkogcgnaaaDoor
open Go.ChangeShapes Go.WideShapes Go.ChangeAt Go.RowKit Go.Am
section
variable {P : Program} {H : Type} {enc : TypeId × Value → H} {W : World} {hW : ∀ a x, glob a = some x → W.cell? a = some x} {base : Nat} {v : Value} {d : DataW H} {p : List MemPlace}
theorem rows_bytes {m : Mem} {γ : Gam} {b : Nat} : ∀ (zs : List Nat) (off : Nat), (∀ i z, zs[i]? = some z → m ⟨b, off + i, none⟩ = some (.int .u8 (z : Nat))) → RepRows m γ 1 (rowsB zs) b off
  | [], off, _ => by simp [rowsB, RepRows]
  | z :: zs, off, h => by
    have ih := rows_bytes (m := m) (γ := γ) (b := b) zs (off + 1) fun i y hi => by
      have := h (i + 1) y (by simpa using hi)
      rw [show off + 1 + i = off + (i + 1) from by omega]
      exact this
    simp only [rowsB] at ih ⊢
    simp only [List.map_cons, RepRows, RepCells]
    exact ⟨rfl, ⟨⟨_, by simpa using h 0 z rfl, by simp [Rep]⟩, trivial⟩, ih⟩
theorem bytes_rep {t e : TypeId} (ht : P.underlying t = some (.slice e)) (he : P.underlying e = some (.int .u8)) (hc : P.cellsOf e = 1)
    (hval : Value.okWide P W .any base t v) (h : DataW.Trod enc P W 0 (fun _ => true) true t v d p) :
    ∃ bs : List Nat, (∀ b ∈ bs, b < 256) ∧ Rep (memOf W hW) (fun _ => none) (.sl 1 (rowsB bs)) v := by
  obtain ⟨a1, len, cap, rfl⟩ := okWide_slice ht hval
  obtain ⟨fuel, hf⟩ := h
  rcases open_ints ht he hc hf with ⟨hcs, hx⟩ | ⟨a, len', cap', zs, hcs, _, hl, hm, hz, hx, hcell, hwz⟩
  · simp [Value.cells] at hcs
    obtain ⟨rfl, rfl, rfl⟩ := hcs
    exact ⟨[], by simp, by simp only [Rep]; exact ⟨none, 0, 0, rfl, rfl, Nat.le_refl _, .inl rfl⟩⟩
  · simp [Value.cells] at hcs
    obtain ⟨rfl, rfl, rfl⟩ := hcs
    simp only [if_true] at hz
    have hw : ∀ z ∈ zs, 0 ≤ z ∧ z ≤ 255 := fun z hzz => bounds_u8 (hwz z hzz)
    refine ⟨(zs.take len).map Int.toNat, fun b hb => ?_, ?_⟩
    · obtain ⟨z, hz1, rfl⟩ := List.mem_map.1 hb
      have := hw z (List.mem_of_mem_take hz1)
      omega
    · simp only [Rep]
      refine ⟨some a, len, cap, rfl, by simp [rowsB]; omega, hl, ?_⟩
      by_cases h0 : len = 0
      · left; rw [h0]; rfl
      · right
        obtain ⟨ab, ao, spot⟩ := a
        have hspot : spot = none := by simpa [Addr.add] using World.cell?_spot (hcell 0 (by omega))
        subst hspot
        refine ⟨ab, ao, rfl, rows_bytes _ _ fun i z hi => ?_⟩
        rw [List.getElem?_map, List.getElem?_take] at hi
        split at hi
        · rename_i hil
          have hci := hcell i (by omega)
          rw [Addr.add_lit, List.getD_eq_getElem?_getD] at hci
          cases hzi : zs[i]? with
          | none => rw [hzi] at hi; cases hi
          | some y =>
            rw [hzi] at hi hci
            simp only [Option.map_some, Option.some.injEq] at hi
            have := hw y (List.mem_of_getElem? hzi)
            show W.cell? _ = _
            rw [hci]
            simp only [Option.getD_some]
            rw [← hi, Int.toNat_of_nonneg this.1]
        · cases hi
theorem cells_get {a : Addr} {n : Nat} {cs : List Value} (h : W.cells? 0 a n = some cs) : cs.length = n ∧ ∀ j, j < n → W.cell? (a.add j) = cs[j]? := by
  simp only [World.cells?, Nat.zero_le, if_true] at h
  exact ⟨by simpa using mapM_some_length h, fun j hj => mapM_some_get h j j (by simp [hj])⟩
/-- four numbers, one behind the other -/
theorem toks_rep {t e : TypeId} {f0 f1 f2 f3 : Field} (ht : P.underlying t = some (.slice e)) (he : P.underlying e = some (.struct #[f0, f1, f2, f3])) (hc : P.cellsOf e = 4)
    (o0 : f0.offset = 0 ∧ P.underlying f0.type = some (.int .i64) ∧ P.cellsOf f0.type = 1) (o1 : f1.offset = 1 ∧ P.underlying f1.type = some (.int .i64) ∧ P.cellsOf f1.type = 1)
    (o2 : f2.offset = 2 ∧ P.underlying f2.type = some (.int .i64) ∧ P.cellsOf f2.type = 1) (o3 : f3.offset = 3 ∧ P.underlying f3.type = some (.int .i64) ∧ P.cellsOf f3.type = 1)
    (hval : Value.okWide P W .any base t v) (h : DataW.Trod enc P W 0 (fun _ => true) true t v d p) :
    ∃ l : List Tok, Rep (memOf W hW) (fun _ => none) (.sl 4 (toks l)) v := by
  obtain ⟨a1, len, cap, rfl⟩ := okWide_slice ht hval
  obtain ⟨fuel, hf⟩ := h
  rcases DataW.trod_slice ht hf with ⟨hcs, _⟩ | ⟨a, len', cap', elems, rest, n, _, hcs, _, _, hl, _, hlen, hel, _, _⟩
  · simp [Value.cells] at hcs
    obtain ⟨rfl, rfl, rfl⟩ := hcs
    exact ⟨[], by simp only [Rep]; exact ⟨none, 0, 0, rfl, rfl, Nat.le_refl _, .inl rfl⟩⟩
  · simp [Value.cells] at hcs
    obtain ⟨rfl, rfl, rfl⟩ := hcs
    have each : ∀ i, i < len → ∃ t : Tok, ∀ j x, (tokRow t)[j]? = some (.v x) → W.cell? (a.add (i * 4 + j)) = some x := by
      intro i hi
      have h1 := hel i hi
      rw [hc, List.getElem?_eq_getElem (by omega)] at h1
      simp only [Option.bind_eq_some_iff] at h1
      obtain ⟨cs, h2, h3⟩ := h1
      obtain ⟨hcl, hcell⟩ := cells_get h2
      obtain ⟨ys, m', _, _, _, hys, hfl⟩ := DataW.trod_struct he h3
      have hys' : ys.length = 4 := hys
      have at' : ∀ (i : Nat) (f : Field), #[f0, f1, f2, f3][i]? = some f → f.offset = i → P.underlying f.type = some (.int .i64) → P.cellsOf f.type = 1 → i < 4 → ∃ z : Int, cs[i]? = some (.int .i64 z) := by
        intro i f hfi ho hu hcf hi4
        have := hfl i f hfi
        rw [ho, hcf, List.getElem?_eq_getElem (by omega)] at this
        obtain ⟨z, h5, _⟩ := DataW.trod_int hu this
        exact ⟨z, take_one h5⟩
      obtain ⟨z0, e0⟩ := at' 0 f0 rfl o0.1 o0.2.1 o0.2.2 (by omega)
      obtain ⟨z1, e1⟩ := at' 1 f1 rfl o1.1 o1.2.1 o1.2.2 (by omega)
      obtain ⟨z2, e2⟩ := at' 2 f2 rfl o2.1 o2.2.1 o2.2.2 (by omega)
      obtain ⟨z3, e3⟩ := at' 3 f3 rfl o3.1 o3.2.1 o3.2.2 (by omega)
      refine ⟨⟨z0, z1, z2, z3⟩, fun j x hj => ?_⟩
      have hadd : a.add (i * 4 + j) = (a.add (i * 4)).add j := (Addr.add_add _ _ _).symm
      match j with
      | 0 => simp [tokRow] at hj; subst hj; rw [hadd, hcell 0 (by omega), e0]
      | 1 => simp [tokRow] at hj; subst hj; rw [hadd, hcell 1 (by omega), e1]
      | 2 => simp [tokRow] at hj; subst hj; rw [hadd, hcell 2 (by omega), e2]
      | 3 => simp [tokRow] at hj; subst hj; rw [hadd, hcell 3 (by omega), e3]
      | j + 4 => simp [tokRow] at hj
    have hall : ∃ l : List Tok, l.length = len ∧ ∀ i t, l[i]? = some t → ∀ j x, (tokRow t)[j]? = some (.v x) → W.cell? (a.add (i * 4 + j)) = some x := by
      have : ∀ k, k ≤ len → ∃ l : List Tok, l.length = k ∧ ∀ i t, l[i]? = some t → ∀ j x, (tokRow t)[j]? = some (.v x) → W.cell? (a.add (i * 4 + j)) = some x := by
        intro k
        induction k with
        | zero => intro _; exact ⟨[], rfl, by simp⟩
        | succ k ih =>
          intro hk
          obtain ⟨l, h1, h2⟩ := ih (by omega)
          obtain ⟨t, ht⟩ := each k (by omega)
          refine ⟨l ++ [t], by simp [h1], fun i u hu => ?_⟩
          by_cases hi : i < l.length
          · rw [List.getElem?_append_left hi] at hu; exact h2 i u hu
          · rw [List.getElem?_append_right (by omega)] at hu
            have hil : i = l.length := by
              have := (List.getElem?_eq_some_iff.1 hu).1
              simp at this; omega
            subst hil
            simp at hu
            subst hu
            rw [h1]; exact ht
      exact this len (Nat.le_refl _)
    obtain ⟨l, hll, hlc⟩ := hall
    refine ⟨l, ?_⟩
    simp only [Rep]
    refine ⟨some a, len, cap, rfl, by simp [toks]; omega, hl, ?_⟩
    by_cases h0 : len = 0
    · left
      have : l = [] := List.eq_nil_of_length_eq_zero (by omega)
      rw [this]; rfl
    · right
      obtain ⟨t0, ht0⟩ : ∃ t, l[0]? = some t := ⟨_, List.getElem?_eq_getElem (by omega)⟩
      obtain ⟨ab, ao, spot⟩ := a
      have hspot : spot = none := by simpa [Addr.add] using World.cell?_spot (hlc 0 t0 ht0 0 _ rfl)
      subst hspot
      refine ⟨ab, ao, rfl, repRows_of_get fun i r hr => ?_⟩
      unfold toks at hr
      rw [List.getElem?_map] at hr
      cases hti : l[i]? with
      | none => rw [hti] at hr; cases hr
      | some t =>
        rw [hti] at hr
        simp only [Option.map_some, Option.some.injEq] at hr
        subst hr
        refine ⟨rfl, repCells_of_get fun j c hcj => ?_⟩
        have hex : ∃ x, c = .v x := by
          match j with
          | 0 => simp [tokRow] at hcj; exact ⟨_, hcj.symm⟩
          | 1 => simp [tokRow] at hcj; exact ⟨_, hcj.symm⟩
          | 2 => simp [tokRow] at hcj; exact ⟨_, hcj.symm⟩
          | 3 => simp [tokRow] at hcj; exact ⟨_, hcj.symm⟩
          | j + 4 => simp [tokRow] at hcj
        obtain ⟨x, rfl⟩ := hex
        have := hlc i t hti j x hcj
        rw [Addr.add_lit] at this
        exact ⟨x, by rw [show ao + i * 4 + j = ao + (i * 4 + j) from by omega]; exact this, by simp [Rep]⟩
end
end Go.Proofs.YtifnhnkogcgnaaaDoor
