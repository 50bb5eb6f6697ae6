/- What stands at any place, by the program and by the document: tree.At, ref24.At. -/
import Derived.Test.YtobehholoenaiaaGreatDoorTQ
namespace Go.Proofs.YtobehholoenaiaaGreatDoor
open Go.Am
abbrev cl (k r a tok ty : Int) (op : Bool) (R : List (List AV)) : List AV := [.v (.int .i8 k), I r, I a, I tok, I ty, B op, .sl 7 R]
noncomputable def hd8 : List Code := [sq1 (bodyOf 8)]
noncomputable def h8 : Code := sq1 (sq1 (sq2 (bodyOf 8)))
noncomputable def lp8 : Code := inn (sq2 (sq1 (sq2 (bodyOf 8))))
noncomputable def tl8 : Code := sq2 (sq2 (bodyOf 8))
def a7 (p : List (List AV)) (i : Int) : Am.Loc := [(2, .pt 0 0), (4, .pt 1 0), (5, I 0), (8, .sl 1 p), (9, I p.length), (10, I i)]
def a8 (p : List (List AV)) (i : Int) : Am.Loc := [(1, .sl 1 p), (2, .pt 0 0), (4, .pt 1 0), (5, I 0), (6, I i)]
theorem a7_head (k r a tok ty : Int) (op : Bool) (R : List (List AV)) (p : List (List AV)) : outR [2, 4, 5, 8, 9, 10] [0, 1] (runL Tryz.prog 31 base noPu 3000 (hd7 ++ [h7]) (argT 0 [.ag (cl k r a tok ty op R), .sl 1 p] .e) .e 0 ⟨0, [.b true], []⟩) =
    some (AX.normal, [some (AV.pt 0 0), some (AV.pt 1 0), some (I 0), some (AV.sl 1 p), some (I (↑(List.length p) : Int)), some (I 0)], [some (Ob.box 25 [AV.v (Value.int IntKind.i8 k), I r, I a, I tok, I ty, B op, AV.sl 7 R]), some (Ob.box 25 [AV.v (Value.int IntKind.i8 0), I 0, I 0, I 0, I 0, B false, AV.v (Value.slice none 0 0)])], 2, []) := by kernel_rfl
theorem a7_step (k r a tok ty : Int) (op : Bool) (R : List (List AV)) (k2 r2 a2 tok2 ty2 : Int) (op2 : Bool) (R2 : List (List AV)) (p : List (List AV)) (z i : Nat) : outR [2, 4, 5, 8, 9, 10] [0, 1] (runCode Tryz.prog 31 base noPu 3000 lp7 (triM (a7 p z)) (triO [.box 25 (cl k r a tok ty op R), .box 25 zeroT]) 2 ⟨2, [.b true, .row [I i], .b false, .b false, .row (cl k2 r2 a2 tok2 ty2 op2 R2), .int (z + 1 : Nat), .b true], []⟩) =
    some (AX.normal, [some (AV.pt 0 0), some (AV.pt 1 0), some (I 0), some (AV.sl 1 p), some (I (↑(List.length p) : Int)), some (I (↑(z + 1) : Int))], [some (Ob.box 25 [AV.v (Value.int IntKind.i8 k2), I r2, I a2, I tok2, I ty2, B op2, AV.sl 7 R2]), some (Ob.box 25 [AV.v (Value.int IntKind.i8 0), I 0, I 0, I 0, I 0, B false, AV.v (Value.slice none 0 0)])], 2, [dec (IntKind.wrap IntKind.i64 (↑(z + 1) : Int) = (↑(z + 1) : Int)), dec (R[i]? = some [AV.v (Value.int IntKind.i8 k2), I r2, I a2, I tok2, I ty2, B op2, AV.sl 7 R2]), !decide ((↑i : Int) ≥ (↑(List.length R) : Int)), true, dec (p[z]? = some [I (↑i : Int)]), decide ((↑z : Int) < (↑(List.length p) : Int))]) := by kernel_rfl
theorem a7_last (k r a tok ty : Int) (op : Bool) (R : List (List AV)) (p : List (List AV)) (z : Nat) : lastC Tryz.prog [.cell 4 25, .tmp 5] 0 (lastR Tryz.prog 31 base noPu 3000 0 tl7 (runCode Tryz.prog 31 base noPu 3000 lp7 (triM (a7 p z)) (triO [.box 25 (cl k r a tok ty op R), .box 25 zeroT]) 2 ⟨2, [.b false, .b true], []⟩)) =
    some (AV.tu [AV.ag [AV.v (Value.int IntKind.i8 k), I r, I a, I tok, I ty, B op, AV.sl 7 R], I 0], [], [!decide ((↑z : Int) < (↑(List.length p) : Int))]) := by kernel_rfl
theorem a7_neg (k r a tok ty : Int) (op : Bool) (R : List (List AV)) (p : List (List AV)) (z : Nat) (i : Int) : lastC Tryz.prog [.cell 4 25, .tmp 5] 0 (lastR Tryz.prog 31 base noPu 3000 0 tl7 (runCode Tryz.prog 31 base noPu 3000 lp7 (triM (a7 p z)) (triO [.box 25 (cl k r a tok ty op R), .box 25 zeroT]) 2 ⟨2, [.b true, .row [I i], .b true, .b true], []⟩)) =
    some (AV.tu [AV.ag [AV.v (Value.int IntKind.i8 0), I 0, I 0, I 0, I 0, B false, AV.v (Value.slice none 0 0)], I 4], [], [decide (i < 0), dec (p[z]? = some [I i]), decide ((↑z : Int) < (↑(List.length p) : Int))]) := by kernel_rfl
theorem a7_far (k r a tok ty : Int) (op : Bool) (R : List (List AV)) (p : List (List AV)) (z : Nat) (i : Int) : lastC Tryz.prog [.cell 4 25, .tmp 5] 0 (lastR Tryz.prog 31 base noPu 3000 0 tl7 (runCode Tryz.prog 31 base noPu 3000 lp7 (triM (a7 p z)) (triO [.box 25 (cl k r a tok ty op R), .box 25 zeroT]) 2 ⟨2, [.b true, .row [I i], .b false, .b true, .b true], []⟩)) =
    some (AV.tu [AV.ag [AV.v (Value.int IntKind.i8 0), I 0, I 0, I 0, I 0, B false, AV.v (Value.slice none 0 0)], I 4], [], [decide (i ≥ (↑(List.length R) : Int)), !decide (i < 0), dec (p[z]? = some [I i]), decide ((↑z : Int) < (↑(List.length p) : Int))]) := by kernel_rfl
theorem a8_head (k r a tok ty : Int) (op : Bool) (R : List (List AV)) (p : List (List AV)) : outR [1, 2, 4, 5, 6] [0, 1] (runL Tryz.prog 38 base noPu 3000 (hd8 ++ [h8]) (argT 0 [.ag (cl k r a tok ty op R), .sl 1 p] .e) .e 0 ⟨0, [.b true], []⟩) =
    some (AX.normal, [some (AV.sl 1 p), some (AV.pt 0 0), some (AV.pt 1 0), some (I 0), some (I 0)], [some (Ob.box 25 [AV.v (Value.int IntKind.i8 k), I r, I a, I tok, I ty, B op, AV.sl 7 R]), some (Ob.box 25 [AV.v (Value.int IntKind.i8 0), I 0, I 0, I 0, I 0, B false, AV.v (Value.slice none 0 0)])], 2, []) := by kernel_rfl
theorem a8_step (k r a tok ty : Int) (op : Bool) (R : List (List AV)) (k2 r2 a2 tok2 ty2 : Int) (op2 : Bool) (R2 : List (List AV)) (p : List (List AV)) (z i : Nat) : outR [1, 2, 4, 5, 6] [0, 1] (runCode Tryz.prog 38 base noPu 3000 lp8 (triM (a8 p z)) (triO [.box 25 (cl k r a tok ty op R), .box 25 zeroT]) 2 ⟨2, [.b true, .row [I i], .b false, .row [I i], .b false, .row [I i], .row (cl k2 r2 a2 tok2 ty2 op2 R2), .int (z + 1 : Nat), .b true], []⟩) =
    some (AX.normal, [some (AV.sl 1 p), some (AV.pt 0 0), some (AV.pt 1 0), some (I 0), some (I (↑(z + 1) : Int))], [some (Ob.box 25 [AV.v (Value.int IntKind.i8 k2), I r2, I a2, I tok2, I ty2, B op2, AV.sl 7 R2]), some (Ob.box 25 [AV.v (Value.int IntKind.i8 0), I 0, I 0, I 0, I 0, B false, AV.v (Value.slice none 0 0)])], 2, [dec (IntKind.wrap IntKind.i64 (↑(z + 1) : Int) = (↑(z + 1) : Int)), dec (R[i]? = some [AV.v (Value.int IntKind.i8 k2), I r2, I a2, I tok2, I ty2, B op2, AV.sl 7 R2]), dec (p[z]? = some [I (↑i : Int)]), !decide ((↑i : Int) ≥ (↑(List.length R) : Int)), dec (p[z]? = some [I (↑i : Int)]), true, dec (p[z]? = some [I (↑i : Int)]), decide ((↑z : Int) < (↑(List.length p) : Int))]) := by kernel_rfl
theorem a8_last (k r a tok ty : Int) (op : Bool) (R : List (List AV)) (p : List (List AV)) (z : Nat) : lastC Tryz.prog [.cell 4 25, .tmp 5] 0 (lastR Tryz.prog 38 base noPu 3000 0 tl8 (runCode Tryz.prog 38 base noPu 3000 lp8 (triM (a8 p z)) (triO [.box 25 (cl k r a tok ty op R), .box 25 zeroT]) 2 ⟨2, [.b false, .b true], []⟩)) =
    some (AV.tu [AV.ag [AV.v (Value.int IntKind.i8 k), I r, I a, I tok, I ty, B op, AV.sl 7 R], I 0], [], [!decide ((↑z : Int) < (↑(List.length p) : Int))]) := by kernel_rfl
theorem a8_neg (k r a tok ty : Int) (op : Bool) (R : List (List AV)) (p : List (List AV)) (z : Nat) (i : Int) : lastC Tryz.prog [.cell 4 25, .tmp 5] 0 (lastR Tryz.prog 38 base noPu 3000 0 tl8 (runCode Tryz.prog 38 base noPu 3000 lp8 (triM (a8 p z)) (triO [.box 25 (cl k r a tok ty op R), .box 25 zeroT]) 2 ⟨2, [.b true, .row [I i], .b true, .b true], []⟩)) =
    some (AV.tu [AV.ag [AV.v (Value.int IntKind.i8 0), I 0, I 0, I 0, I 0, B false, AV.v (Value.slice none 0 0)], I 4], [], [decide (i < 0), dec (p[z]? = some [I i]), decide ((↑z : Int) < (↑(List.length p) : Int))]) := by kernel_rfl
theorem a8_far (k r a tok ty : Int) (op : Bool) (R : List (List AV)) (p : List (List AV)) (z : Nat) (i : Int) : lastC Tryz.prog [.cell 4 25, .tmp 5] 0 (lastR Tryz.prog 38 base noPu 3000 0 tl8 (runCode Tryz.prog 38 base noPu 3000 lp8 (triM (a8 p z)) (triO [.box 25 (cl k r a tok ty op R), .box 25 zeroT]) 2 ⟨2, [.b true, .row [I i], .b false, .row [I i], .b true, .b true], []⟩)) =
    some (AV.tu [AV.ag [AV.v (Value.int IntKind.i8 0), I 0, I 0, I 0, I 0, B false, AV.v (Value.slice none 0 0)], I 4], [], [decide (i ≥ (↑(List.length R) : Int)), dec (p[z]? = some [I i]), !decide (i < 0), dec (p[z]? = some [I i]), decide ((↑z : Int) < (↑(List.length p) : Int))]) := by kernel_rfl

abbrev bx (t : Tr) : Ob := .box 25 (cells t)
abbrev rp (p : List Nat) : Ob := .row 3 1 (rowsI p)
abbrev ro (i : Nat) : Ob := .row 3 1 [[I i]]
abbrev sI (p : List Nat) : AV := .sl 1 (rowsI p)
theorem ren_tv (f : Nat → Nat) (t : Tr) : (tv t).ren f = tv t := ren_pure _ _ (pure_tv t)
theorem ren_bx (f : Nat → Nat) (t : Tr) : (bx t).ren f = bx t := by simp [Ob.ren, renVals_pure _ _ (pure_cells t)]
theorem ren_rp (f : Nat → Nat) (p : List Nat) : (rp p).ren f = rp p := by simp [Ob.ren, renRows_pure _ _ (pure_rowsI p)]
theorem ren_ro (f : Nat → Nat) (i : Nat) : (ro i).ren f = ro i := by simp [Ob.ren, renRows, renVals, AV.ren]
theorem und_tv (N : Nat) (t : Tr) : (tv t).und N = true := und_pure N _ (pure_tv t)
theorem und_cells (N : Nat) (t : Tr) : undVals N (cells t) = true := undVals_pure N _ (pure_cells t)
theorem und_rowsI (N : Nat) (p : List Nat) : undRows N (rowsI p) = true := undRows_pure N _ (pure_rowsI p)
theorem und_bx (N : Nat) (t : Tr) : (bx t).und N = true := by simp [Ob.und, und_cells]
theorem und_rp (N : Nat) (p : List Nat) : (rp p).und N = true := by simp [Ob.und, und_rowsI]
theorem rowsI_snoc (p : List Nat) (i : Nat) : rowsI (p ++ [i]) = rowsI p ++ [[I i]] := by simp [rowsI]
theorem dz {q : Prop} (h : q) : dec q = true := dec_true.2 h
def rowsZ (p : List Int) : List (List AV) := p.map fun z => [I z]
theorem rowsZ_len (p : List Int) : (rowsZ p).length = p.length := by simp [rowsZ]
theorem pure_rowsZ : ∀ p : List Int, pureRows (rowsZ p) = true
  | [] => rfl
  | i :: p => by simp [rowsZ, pureRows, pureVals, AV.pure]; exact pure_rowsZ p
theorem rowsZ_get (p : List Int) (i : Nat) : (rowsZ p)[i]? = p[i]?.map fun z => [I z] := by simp [rowsZ]
def zeroTr : Tr := .mk 0 0 0 0 0 false []
theorem repVals_last {m : Mem} {γ : Gam} {c c' : AV} (h : ∀ x, Rep m γ c x → Rep m γ c' x) : ∀ (pre : List AV) (xs : List Value), RepVals m γ (pre ++ [c]) xs → RepVals m γ (pre ++ [c']) xs
  | [], xs, k => by
    simp only [List.nil_append, RepVals] at k ⊢
    obtain ⟨x, r, e, k1, k2⟩ := k
    exact ⟨x, r, e, h x k1, k2⟩
  | p :: pre, xs, k => by
    simp only [List.cons_append, RepVals] at k ⊢
    obtain ⟨x, r, e, k1, k2⟩ := k
    exact ⟨x, r, e, k1, repVals_last h pre r k2⟩
theorem weak_zero (e : Int) (m : Mem) (γ : Gam) (x : Value) (h : Rep m γ (.tu [.ag zeroT, I e]) x) : Rep m γ (.tu [tv zeroTr, I e]) x := by
  simp only [Rep, RepVals] at h ⊢
  obtain ⟨vs, h1, a, r, h2, ⟨us, h3, hu⟩, hr⟩ := h
  refine ⟨vs, h1, a, r, h2, ?_, hr⟩
  simp only [tv, Rep]
  exact ⟨us, h3, repVals_last (c := .v (.slice none 0 0)) (c' := .sl 7 []) (fun x hx => weak_nil x hx) [.v (.int .i8 0), I 0, I 0, I 0, I 0, B false] us hu⟩
/-- what stands at a place, if there is one -/
def atZ : Tr → List Int → Option Tr
  | t, [] => some t
  | t, i :: p => if 0 ≤ i then match t.kids[i.toNat]? with
    | some k => atZ k p
    | none => none else none
def atR (t : Tr) (p : List Int) : Tr × Int := match atZ t p with
  | some y => (y, 0)
  | none => (zeroTr, 4)
theorem drop_at {α : Type} {p : List α} {z : Nat} {i : α} (h : p[z]? = some i) : p.drop z = i :: p.drop (z + 1) := by
  obtain ⟨h1, rfl⟩ := List.getElem?_eq_some_iff.1 h
  exact List.drop_eq_getElem_cons h1
theorem ren_z (f : Nat → Nat) (u : Tr) : renO f [.box 25 (cells u), .box 25 zeroT] = [some (.box 25 (cells u)), some (.box 25 zeroT)] := by simp [renO, Ob.ren, renVals_pure _ _ (pure_cells _), zeroT, renVals, AV.ren]
theorem und_y (y : Tr) (e : Int) : (AV.tu [tv y, I e]).und 0 = true := by simp [AV.und, undVals, tv, undVals_pure 0 _ (pure_cells y)]
theorem d_rowZ {p : List Int} {z : Nat} {i : Int} (h : p[z]? = some i) : dec ((rowsZ p)[z]? = some [I i]) = true := dec_true.2 (by rw [rowsZ_get, h]; rfl)
theorem d_rowT {l : List Tr} {z : Nat} {u : Tr} (h : l[z]? = some u) : dec ((rowsT l)[z]? = some (cells u)) = true := dec_true.2 (by rw [rowsT_get, h]; rfl)
theorem dinc1 {z n : Nat} (h : z < n) (hn : n ≤ 9223372036854775807) : dec (IntKind.wrap IntKind.i64 (↑(z + 1) : Int) = (↑(z + 1) : Int)) = true := dec_true.2 (wrap64 (by omega) (by omega))
theorem nge {i n : Nat} (h : i < n) : (!decide ((i : Int) ≥ (n : Int))) = true := by simp; omega
theorem nge2 {l : List Tr} {i : Nat} {u : Tr} (h : l[i]? = some u) : (!decide ((i : Int) ≥ ((rowsT l).length : Int))) = true := nge (by rw [rowsT_len]; exact (List.getElem?_eq_some_iff.1 h).1)
theorem at7_aux (t : Tr) (p : List Int) (hp : p.length ≤ 9223372036854775807) (R : AV) (C : Option Tr → Prop) (h : C (atZ t p)) (hund : R.und 0 = true) (hy : ∀ y, C (some y) → R = .tu [tv y, I 0]) (hn : C none → R = .tu [.ag zeroT, I 4]) : ARet Tryz.prog 7 [tv t, .sl 1 (rowsZ p)] [] [] R [] := by
  have hren : ∀ (f : Nat → Nat) (z : Nat), renL f (a7 (rowsZ p) z) = [some (.pt (f 0) 0), some (.pt (f 1) 0), some (I 0), some (.sl 1 (rowsZ p)), some (I (rowsZ p).length), some (I z)] := fun f z => by simp [renL, a7, AV.ren, renRows_pure _ _ (pure_rowsZ p)]
  obtain ⟨k, r, a, tok, ty, op, l⟩ := t
  refine aret_loop2 base_ok mixed (callf := base) (pu := noPu) (lf := 3000) (fn := Tryz.f7) (hs := hd7) (H := h7) (id := 0) (c := lp7) (B := tl7) f7 n7 bd7 (Nat.le_of_ble_eq_true rfl) hund rfl
    (ι := Tr × Nat) (fun x => a7 (rowsZ p) x.2) (fun x => [.box 25 (cells x.1), .box 25 zeroT]) (fun x => x.2 ≤ p.length ∧ C (atZ x.1 (p.drop x.2))) (fun x => p.length - x.2) (uu k r a tok ty op l, 0) ⟨Nat.zero_le _, by simpa using h⟩ ?_ ?_
  · exact head_of (L' := a7 (rowsZ p) (0 : Nat)) (a7_head k r a tok ty op (rowsT l) (rowsZ p)) rfl rfl (hren _ _) (ren_z _ _)
  · rintro ⟨⟨k1, r1, a1, tok1, ty1, op1, l1⟩, z⟩ ⟨hz, hu⟩
    simp only at hz hu ⊢
    by_cases hl : z < p.length
    · obtain ⟨i, hi⟩ : ∃ i, p[z]? = some i := ⟨_, List.getElem?_eq_getElem hl⟩
      rw [drop_at hi] at hu
      simp only [atZ, Tr.kids] at hu
      by_cases h0 : 0 ≤ i
      · rw [if_pos h0] at hu
        obtain ⟨n, rfl⟩ : ∃ n : Nat, i = n := ⟨i.toNat, by omega⟩
        rw [Int.toNat_natCast] at hu
        cases hk : l1[n]? with
        | some u =>
          rw [hk] at hu
          left
          obtain ⟨k2, r2, a2, tok2, ty2, op2, l2⟩ := u
          refine ⟨(uu k2 r2 a2 tok2 ty2 op2 l2, z + 1), ⟨hl, hu⟩, by simp only; omega, ?_⟩
          refine step_of (L' := a7 (rowsZ p) (z + 1 : Nat)) (a7_step k1 r1 a1 tok1 ty1 op1 (rowsT l1) k2 r2 a2 tok2 ty2 op2 (rowsT l2) (rowsZ p) z n) ?_ rfl (hren _ _) (ren_z _ _)
          exact ac (dinc1 hl hp) (ac (d_rowT hk) (ac (nge2 hk) (ac rfl (ac (d_rowZ hi) (ac (ylt (by rw [rowsZ_len]; exact hl)) rfl)))))
        | none =>
          rw [hk] at hu
          right
          have hfar : decide ((n : Int) ≥ ((rowsT l1).length : Int)) = true := by
            rw [rowsT_len]
            have := List.getElem?_eq_none_iff.1 hk
            simpa using this
          have := a7_far k1 r1 a1 tok1 ty1 op1 (rowsT l1) (rowsZ p) z n
          rw [hn hu]
          exact last_of (obs := []) this (ac hfar (ac (by simp) (ac (d_rowZ hi) (ac (ylt (by rw [rowsZ_len]; exact hl)) rfl)))) rfl
      · rw [if_neg h0] at hu
        right
        rw [hn hu]
        exact last_of (obs := []) (a7_neg k1 r1 a1 tok1 ty1 op1 (rowsT l1) (rowsZ p) z i) (ac (by simp; omega) (ac (d_rowZ hi) (ac (ylt (by rw [rowsZ_len]; exact hl)) rfl))) rfl
    · right
      have hz' : z = p.length := by omega
      subst hz'
      rw [List.drop_length] at hu
      rw [hy _ hu]
      exact last_of (obs := []) (a7_last k1 r1 a1 tok1 ty1 op1 (rowsT l1) (rowsZ p) p.length) (ac (nlt (by rw [rowsZ_len]; exact Nat.le_refl _)) rfl) rfl
theorem at7z (t : Tr) (p : List Int) (hp : p.length ≤ 9223372036854775807) : ARet Tryz.prog 7 [tv t, .sl 1 (rowsZ p)] [] [] (.tu [tv (atR t p).1, I (atR t p).2]) [] := by
  unfold atR
  cases h : atZ t p with
  | some y => exact at7_aux t p hp _ (fun o => o = some y) h (und_y y 0) (fun y' e => by cases e; rfl) (fun e => by cases e)
  | none => exact aret_weak (at7_aux t p hp (.tu [.ag zeroT, I 4]) (fun o => o = none) h rfl (fun y' e => by cases e) (fun _ => rfl)) (weak_zero 4)
theorem f8 : Tryz.prog.funcs[8]? = some Tryz.f8 := by kernel_rfl
theorem n8 : (Tryz.f8.name == "runtime.NumGoroutine") = false := by kernel_rfl
theorem bd8 : Tryz.f8.body = some (seqs hd8 (.seq (.seq h8 (.block 0 (.loop lp8))) tl8)) := by kernel_rfl
theorem at8_aux (t : Tr) (p : List Int) (hp : p.length ≤ 9223372036854775807) (R : AV) (C : Option Tr → Prop) (h : C (atZ t p)) (hund : R.und 0 = true) (hy : ∀ y, C (some y) → R = .tu [tv y, I 0]) (hn : C none → R = .tu [.ag zeroT, I 4]) : ARet Tryz.prog 8 [tv t, .sl 1 (rowsZ p)] [] [] R [] := by
  have hren : ∀ (f : Nat → Nat) (z : Nat), renL f (a8 (rowsZ p) z) = [some (.sl 1 (rowsZ p)), some (.pt (f 0) 0), some (.pt (f 1) 0), some (I 0), some (I z)] := fun f z => by simp [renL, a8, AV.ren, renRows_pure _ _ (pure_rowsZ p)]
  obtain ⟨k, r, a, tok, ty, op, l⟩ := t
  refine aret_loop2 base_ok mixed (callf := base) (pu := noPu) (lf := 3000) (fn := Tryz.f8) (hs := hd8) (H := h8) (id := 0) (c := lp8) (B := tl8) f8 n8 bd8 (Nat.le_of_ble_eq_true rfl) hund rfl
    (ι := Tr × Nat) (fun x => a8 (rowsZ p) x.2) (fun x => [.box 25 (cells x.1), .box 25 zeroT]) (fun x => x.2 ≤ p.length ∧ C (atZ x.1 (p.drop x.2))) (fun x => p.length - x.2) (uu k r a tok ty op l, 0) ⟨Nat.zero_le _, by simpa using h⟩ ?_ ?_
  · exact head_of (L' := a8 (rowsZ p) (0 : Nat)) (a8_head k r a tok ty op (rowsT l) (rowsZ p)) rfl rfl (hren _ _) (ren_z _ _)
  · rintro ⟨⟨k1, r1, a1, tok1, ty1, op1, l1⟩, z⟩ ⟨hz, hu⟩
    simp only at hz hu ⊢
    by_cases hl : z < p.length
    · obtain ⟨i, hi⟩ : ∃ i, p[z]? = some i := ⟨_, List.getElem?_eq_getElem hl⟩
      rw [drop_at hi] at hu
      simp only [atZ, Tr.kids] at hu
      by_cases h0 : 0 ≤ i
      · rw [if_pos h0] at hu
        obtain ⟨n, rfl⟩ : ∃ n : Nat, i = n := ⟨i.toNat, by omega⟩
        rw [Int.toNat_natCast] at hu
        cases hk : l1[n]? with
        | some u =>
          rw [hk] at hu
          left
          obtain ⟨k2, r2, a2, tok2, ty2, op2, l2⟩ := u
          refine ⟨(uu k2 r2 a2 tok2 ty2 op2 l2, z + 1), ⟨hl, hu⟩, by simp only; omega, ?_⟩
          refine step_of (L' := a8 (rowsZ p) (z + 1 : Nat)) (a8_step k1 r1 a1 tok1 ty1 op1 (rowsT l1) k2 r2 a2 tok2 ty2 op2 (rowsT l2) (rowsZ p) z n) ?_ rfl (hren _ _) (ren_z _ _)
          exact ac (dinc1 hl hp) (ac (d_rowT hk) (ac (d_rowZ hi) (ac (nge2 hk) (ac (d_rowZ hi) (ac rfl (ac (d_rowZ hi) (ac (ylt (by rw [rowsZ_len]; exact hl)) rfl)))))))
        | none =>
          rw [hk] at hu
          right
          have hfar : decide ((n : Int) ≥ ((rowsT l1).length : Int)) = true := by
            rw [rowsT_len]
            have := List.getElem?_eq_none_iff.1 hk
            simpa using this
          have := a8_far k1 r1 a1 tok1 ty1 op1 (rowsT l1) (rowsZ p) z n
          rw [hn hu]
          exact last_of (obs := []) this (ac hfar (ac (d_rowZ hi) (ac (by simp) (ac (d_rowZ hi) (ac (ylt (by rw [rowsZ_len]; exact hl)) rfl))))) rfl
      · rw [if_neg h0] at hu
        right
        rw [hn hu]
        exact last_of (obs := []) (a8_neg k1 r1 a1 tok1 ty1 op1 (rowsT l1) (rowsZ p) z i) (ac (by simp; omega) (ac (d_rowZ hi) (ac (ylt (by rw [rowsZ_len]; exact hl)) rfl))) rfl
    · right
      have hz' : z = p.length := by omega
      subst hz'
      rw [List.drop_length] at hu
      rw [hy _ hu]
      exact last_of (obs := []) (a8_last k1 r1 a1 tok1 ty1 op1 (rowsT l1) (rowsZ p) p.length) (ac (nlt (by rw [rowsZ_len]; exact Nat.le_refl _)) rfl) rfl
theorem at8z (t : Tr) (p : List Int) (hp : p.length ≤ 9223372036854775807) : ARet Tryz.prog 8 [tv t, .sl 1 (rowsZ p)] [] [] (.tu [tv (atR t p).1, I (atR t p).2]) [] := by
  unfold atR
  cases h : atZ t p with
  | some y => exact at8_aux t p hp _ (fun o => o = some y) h (und_y y 0) (fun y' e => by cases e; rfl) (fun e => by cases e)
  | none => exact aret_weak (at8_aux t p hp (.tu [.ag zeroT, I 4]) (fun o => o = none) h rfl (fun y' e => by cases e) (fun _ => rfl)) (weak_zero 4)
end Go.Proofs.YtobehholoenaiaaGreatDoor
