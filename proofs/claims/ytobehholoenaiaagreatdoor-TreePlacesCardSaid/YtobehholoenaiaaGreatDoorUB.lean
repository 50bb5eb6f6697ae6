/- The law TreePlaces: it returns true. -/
import Derived.Test.YtobehholoenaiaaGreatDoorUA
import Derived.Test.YtobehholoenaiaaGreatDoorU2
namespace Go.Proofs.YtobehholoenaiaaGreatDoor
open Go.Am
noncomputable def st6 (t : List AV) (sp : List (List AV)) (w : Int) : List Ob := [.box 3 [I w], .box 4 [B false], .box 35 [.sl 8 sp], .box 3 [I 0], .box 25 t, lp3 none]
noncomputable def E9 (t : List AV) (sp : List (List AV)) (w n : Int) (j : Option Code) : List Ob := [.box 3 [I w], .box 4 [B false], .box 35 [.sl 8 sp], .box 3 [I n], .box 25 t, lp3 j, .dead, .dead, .dead]
noncomputable def call26 (t : List AV) (sp : List (List AV)) (w n : Int) (c : Bool) (j : Option Code) : CallF := knownS 27 (aw t) (st3 t sp w 0 nilS none) (B c) (E9 t sp w n j) base
noncomputable def callZ (t : List AV) (sp : List (List AV)) (w n : Int) (j : Option Code) : CallF := knownS 26 [.yl 5, .pt 4 0] (st6 t sp w) (.tu []) (E9 t sp w n j) <| known1 6 (fun args => args = []) (fun _ => B true) base
theorem run26 (k r a tok ty : Int) (op : Bool) (R sp : List (List AV)) (w n : Int) (c : Bool) (j : Option Code) : outC (runOne Tryz.prog noPu 3000 (call26 (cl k r a tok ty op R) sp w n c j) 26 [.yl 5, .pt 4 0] (triO (st6 (cl k r a tok ty op R) sp w)) 6 ⟨6, [.b true], []⟩) =
    some (AV.tu [], [some (Ob.box 3 [I w]), some (Ob.box 4 [B false]), some (Ob.box 35 [AV.sl 8 sp]), some (Ob.box 3 [I n]), some (Ob.box 25 [AV.v (Value.int IntKind.i8 k), I r, I a, I tok, I ty, B op, AV.sl 7 R]), some (Ob.lp false (YCode.left k3 j) [8, 18, 17, 93, 19, 7] [AV.pt 1 0, AV.pt 3 0, AV.pt 2 0, AV.fn (Fn.func 26) [] [AV.pt 4 0], AV.fn (Fn.func 26) [] [AV.pt 4 0], AV.pt 0 0]), some Ob.dead, some Ob.dead, some Ob.dead], [dec ([AV.ag [AV.v (Value.int IntKind.i8 k), I r, I a, I tok, I ty, B op, AV.sl 7 R], AV.pt 6 0, AV.pt 7 0, AV.pt 8 0] = [AV.ag [AV.v (Value.int IntKind.i8 k), I r, I a, I tok, I ty, B op, AV.sl 7 R], AV.pt 6 0, AV.pt 7 0, AV.pt 8 0] ∧ [Ob.box 3 [I w], Ob.box 4 [B false], Ob.box 35 [AV.sl 8 sp], Ob.box 3 [I 0], Ob.box 25 [AV.v (Value.int IntKind.i8 k), I r, I a, I tok, I ty, B op, AV.sl 7 R], Ob.lp false (YCode.left k3 none) [8, 18, 17, 93, 19, 7] [AV.pt 1 0, AV.pt 3 0, AV.pt 2 0, AV.fn (Fn.func 26) [] [AV.pt 4 0], AV.fn (Fn.func 26) [] [AV.pt 4 0], AV.pt 0 0], Ob.box 58 [AV.yl 5], Ob.box 26 [AV.v (Value.slice none 0 0)], Ob.box 59 [AV.fn (Fn.func 27) [] [AV.pt 6 0, AV.pt 7 0, AV.pt 8 0]]] = [Ob.box 3 [I w], Ob.box 4 [B false], Ob.box 35 [AV.sl 8 sp], Ob.box 3 [I 0], Ob.box 25 [AV.v (Value.int IntKind.i8 k), I r, I a, I tok, I ty, B op, AV.sl 7 R], Ob.lp false (YCode.left k3 none) [8, 18, 17, 93, 19, 7] [AV.pt 1 0, AV.pt 3 0, AV.pt 2 0, AV.fn (Fn.func 26) [] [AV.pt 4 0], AV.fn (Fn.func 26) [] [AV.pt 4 0], AV.pt 0 0], Ob.box 58 [AV.yl 5], Ob.box 26 [AV.v (Value.slice none 0 0)], Ob.box 59 [AV.fn (Fn.func 27) [] [AV.pt 6 0, AV.pt 7 0, AV.pt 8 0]]])]) := by kernel_rfl
theorem run17 (k r a tok ty : Int) (op : Bool) (R : List (List AV)) : outC (base 17 [.ag (cl k r a tok ty op R)] .e 0 ⟨0, [.b true], []⟩) =
    some (AV.fn (Fn.func 26) [] [AV.pt 0 0], [some (Ob.box 25 [AV.v (Value.int IntKind.i8 k), I r, I a, I tok, I ty, B op, AV.sl 7 R])], []) := by kernel_rfl
theorem end_a (t : List AV) (sp : List (List AV)) (w n : Int) : lastC Tryz.prog Tryz.f3.results.toList 0 (runCode Tryz.prog 145 (callZ t sp w n none) noPu 3000 (s3 11) (triM L3) (triO [.box 3 [I w], .box 4 [B false], .box 35 [.sl 8 sp], .box 3 [I 0], .box 25 t]) 5 ⟨0, [.b true, .b true], []⟩) =
    some (B true, [], [true, dec (([] : List AV) = []), true, n == (↑(List.length sp) : Int), dec ([AV.yl 5, .pt 4 0] = [.yl 5, .pt 4 0] ∧ st6 t sp w = st6 t sp w)]) := by kernel_rfl
theorem end_x (t : List AV) (sp : List (List AV)) (w n : Int) : lastC Tryz.prog Tryz.f3.results.toList 0 (runCode Tryz.prog 145 (callZ t sp w n ex0) noPu 3000 (s3 11) (triM L3) (triO [.box 3 [I w], .box 4 [B false], .box 35 [.sl 8 sp], .box 3 [I 0], .box 25 t]) 5 ⟨0, [.b true, .b true], []⟩) =
    some (B true, [], [true, dec (([] : List AV) = []), true, n == (↑(List.length sp) : Int), dec ([AV.yl 5, .pt 4 0] = [.yl 5, .pt 4 0] ∧ st6 t sp w = st6 t sp w)]) := by kernel_rfl
theorem end_b (t : List AV) (sp : List (List AV)) (w n : Int) : lastC Tryz.prog Tryz.f3.results.toList 0 (runCode Tryz.prog 145 (callZ t sp w n ex0) noPu 3000 (s3 11) (triM L3) (triO [.box 3 [I w], .box 4 [B false], .box 35 [.sl 8 sp], .box 3 [I 0], .box 25 t]) 5 ⟨0, [.b false, .b true, .b true], []⟩) =
    some (B true, [], [true, dec (([] : List AV) = []), true, n == w, !n == (↑(List.length sp) : Int), dec ([AV.yl 5, .pt 4 0] = [.yl 5, .pt 4 0] ∧ st6 t sp w = st6 t sp w)]) := by kernel_rfl
theorem end_c (t : List AV) (sp : List (List AV)) (w n : Int) : lastC Tryz.prog Tryz.f3.results.toList 0 (runCode Tryz.prog 145 (callZ t sp w n ex0) noPu 3000 (s3 11) (triM L3) (triO [.box 3 [I w], .box 4 [B false], .box 35 [.sl 8 sp], .box 3 [I 0], .box 25 t]) 5 ⟨0, [.b false, .b false, .b true, .b true], []⟩) =
    some (B true, [], [true, dec (([] : List AV) = []), true, n == 300, !n == w, !n == (↑(List.length sp) : Int), dec ([AV.yl 5, .pt 4 0] = [.yl 5, .pt 4 0] ∧ st6 t sp w = st6 t sp w)]) := by kernel_rfl
theorem great3 (k r a tok ty : Int) (op : Bool) (R : List (List AV)) (k2 r2 a2 tok2 ty2 : Int) (op2 : Bool) (R2 : List (List AV)) (p : List (List AV)) (w : Int) : outC (runOne Tryz.prog noPu 3000 (knownR 5 [.sr 4 7 0 2] (st5 (cl k r a tok ty op R) (cl k2 r2 a2 tok2 ty2 op2 R2) w) (B true) (known1 6 (fun args => args = []) (fun _ => B true) base)) 3 [.ag (cl k r a tok ty op R), .ag (cl k2 r2 a2 tok2 ty2 op2 R2), .sl 1 p, I w] .e 0 ⟨0, [.b true], []⟩) =
    some (B true, [some (Ob.box 25 [AV.v (Value.int IntKind.i8 k), I r, I a, I tok, I ty, B op, AV.sl 7 R]), some (Ob.box 25 [AV.v (Value.int IntKind.i8 k2), I r2, I a2, I tok2, I ty2, B op2, AV.sl 7 R2]), some (Ob.box 3 [I w]), some (Ob.box 4 [B true]), some (Ob.row 25 7 [[AV.v (Value.int IntKind.i8 k), I r, I a, I tok, I ty, B op, AV.sl 7 R], [AV.v (Value.int IntKind.i8 k2), I r2, I a2, I tok2, I ty2, B op2, AV.sl 7 R2]])], [true, dec (([] : List AV) = []), true, dec ([AV.sr 4 7 0 2] = [AV.sr 4 7 0 2] ∧ [Ob.box 25 [AV.v (Value.int IntKind.i8 k), I r, I a, I tok, I ty, B op, AV.sl 7 R], Ob.box 25 [AV.v (Value.int IntKind.i8 k2), I r2, I a2, I tok2, I ty2, B op2, AV.sl 7 R2], Ob.box 3 [I w], Ob.box 4 [B false], Ob.row 25 7 [[AV.v (Value.int IntKind.i8 k), I r, I a, I tok, I ty, B op, AV.sl 7 R], [AV.v (Value.int IntKind.i8 k2), I r2, I a2, I tok2, I ty2, B op2, AV.sl 7 R2]]] = [Ob.box 25 [AV.v (Value.int IntKind.i8 k), I r, I a, I tok, I ty, B op, AV.sl 7 R], Ob.box 25 [AV.v (Value.int IntKind.i8 k2), I r2, I a2, I tok2, I ty2, B op2, AV.sl 7 R2], Ob.box 3 [I w], Ob.box 4 [B false], Ob.row 25 7 [[AV.v (Value.int IntKind.i8 k), I r, I a, I tok, I ty, B op, AV.sl 7 R], [AV.v (Value.int IntKind.i8 k2), I r2, I a2, I tok2, I ty2, B op2, AV.sl 7 R2]]])]) := by kernel_rfl

theorem all17 (t : Tr) : ARet Tryz.prog 17 [tv t] [] [] (.fn (.func 26) [] [.pt 0 0]) [bx t] := by
  obtain ⟨k, r, a, tok, ty, op, l⟩ := t
  exact aret_of_run base_ok (run17 k r a tok ty op (rowsT l)) rfl
theorem E9_eq (T : Tr) (w n : Int) (j : Option Code) : E9 (cells T) (spots (pre [] T)) w n j = D3 T w n j := rfl
theorem all26 {T : Tr} {w n : Int} {c : Bool} {j : Option Code} (h : ARet Tryz.prog 27 (aw (cells T)) (S3 T w (0 : Nat) nilS) [] (B c) (D3 T w n j)) : FRet Tryz.prog 26 [.yl 5, .pt 4 0] (st6 (cells T) (spots (pre [] T)) w) (.tu []) (D3 T w n j) := by
  have hc : CallOk Tryz.prog (call26 (cells T) (spots (pre [] T)) w n c j) := knownS_ok (fret_of rfl h) base_ok
  generalize hsp : spots (pre [] T) = sp at hc ⊢
  have e : D3 T w n j = E9 (cells T) sp w n j := by rw [← hsp]; rfl
  rw [e]
  generalize T = U at hc ⊢
  obtain ⟨k, r, a, tok, ty, op, l⟩ := U
  exact fret_of_run (obs := E9 (cells (.mk k r a tok ty op l)) sp w n j) (runOne_ok hc mixed _ _) (run26 k r a tok ty op (rowsT l) sp w n c j) (ac (dz ⟨rfl, rfl⟩) rfl)
theorem callZ_ok {T : Tr} {w n : Int} {c : Bool} {j : Option Code} (h : ARet Tryz.prog 27 (aw (cells T)) (S3 T w (0 : Nat) nilS) [] (B c) (D3 T w n j)) : CallOk Tryz.prog (callZ (cells T) (spots (pre [] T)) w n j) :=
  knownS_ok (all26 h) (known1_ok (fun args e => by subst e; exact ⟨wakes_ret, rfl, rfl⟩) base_ok)
theorem size_atZ : ∀ (p : List Int) (t y : Tr), atZ t p = some y → size y ≤ size t
  | [], t, y, h => by simp only [atZ, Option.some.injEq] at h; subst h; exact Nat.le_refl _
  | i :: p, .mk k r a tok ty op l, y, h => by
    simp only [atZ, Tr.kids] at h
    split at h
    · cases hk : l[i.toNat]? with
      | none => rw [hk] at h; cases h
      | some u =>
        rw [hk] at h
        have := size_atZ p u y h
        have := size_kid hk
        simp only [size]
        omega
    · cases h
theorem sizes_set : ∀ (l : List Tr) (i : Nat) (u v : Tr), l[i]? = some u → sizes (l.set i v) + size u = sizes l + size v
  | [], i, u, v, h => by simp at h
  | t :: l, 0, u, v, h => by simp at h; subst h; simp only [List.set_cons_zero, sizes]; omega
  | t :: l, i + 1, u, v, h => by
    have := sizes_set l i u v (by simpa using h)
    simp only [List.set_cons_succ, sizes]
    omega
theorem size_putZ : ∀ (p : List Int) (t x y : Tr), putZ t p x = some y → size y ≤ size t + size x
  | [], t, x, y, h => by simp only [putZ, Option.some.injEq] at h; subst h; omega
  | i :: p, .mk k r a tok ty op l, x, y, h => by
    simp only [putZ, Tr.kids] at h
    split at h
    · cases hk : l[i.toNat]? with
      | none => rw [hk] at h; cases h
      | some u =>
        rw [hk] at h
        simp only at h
        cases hq : putZ u p x with
        | none => rw [hq] at h; cases h
        | some v =>
          rw [hq] at h
          simp only [Option.some.injEq] at h
          subst h
          have h1 := size_putZ p u x v hq
          have h2 := sizes_set l i.toNat u v hk
          simp only [Tr.withKids, size]
          omega
    · cases h
theorem fit_small : ∀ t : Tr, size t ≤ 100000 → Fit t := Tr.ind fun k r a tok ty op l ih h => by
  have := length_sizes l
  simp only [size] at h
  simp only [Fit]
  refine ⟨by omega, ?_⟩
  have hall : ∀ l : List Tr, (∀ u ∈ l, Fit u) → Fits l := by
    intro l
    induction l with
    | nil => intro _; simp [Fits]
    | cons a l ih => intro h; simp only [Fits]; exact ⟨h a (by simp), ih fun u hu => h u (by simp [hu])⟩
  exact hall l fun u hu => ih u hu (by
    obtain ⟨i, hi⟩ := List.mem_iff_getElem?.1 hu
    have := size_kid hi
    omega)
theorem size_atR (t : Tr) (p : List Int) : size (atR t p).1 ≤ size t + 1 := by
  unfold atR
  cases h : atZ t p with
  | some y => have := size_atZ p t y h; simp only; omega
  | none => simp [zeroTr, size, sizes]
theorem size_putR (t x : Tr) (p : List Int) : size (putR t p x).1 ≤ size t + size x + 1 := by
  unfold putR
  cases h : putZ t p x with
  | some y => have := size_putZ p t x y h; simp only; omega
  | none => simp [zeroTr, size, sizes]
theorem f3 : Tryz.prog.funcs[3]? = some Tryz.f3 := by kernel_rfl
theorem n3 : (Tryz.f3.name == "runtime.NumGoroutine") = false := by kernel_rfl
theorem bd3 : Tryz.f3.body = some (seqs hd3 (s3 11)) := by kernel_rfl
theorem nn (z : Int) : (!z != z) = true := by simp
theorem pg (u : Tr) : (pureVals [AV.ag (cells u)] && true && true) = true := by simp [pureVals, AV.pure, pure_cells]
theorem pg2 (u v : Tr) : (pureVals [AV.ag (cells u), AV.ag (cells v)] && true && true) = true := by simp [pureVals, AV.pure, pure_cells]
theorem pgp (u : Tr) (p : List Int) : (pureVals [AV.ag (cells u), AV.sl 1 (rowsZ p)] && true && true) = true := by simp [pureVals, AV.pure, pure_cells, pure_rowsZ]
theorem pgpx (u x : Tr) (p : List Int) : (pureVals [AV.ag (cells u), AV.sl 1 (rowsZ p), AV.ag (cells x)] && true && true) = true := by simp [pureVals, AV.pure, pure_cells, pure_rowsZ]
theorem ptu (u : Tr) (e : Int) : (AV.tu [.ag (cells u), I e]).pure = true := by simp [AV.pure, pureVals, pure_cells]
theorem callQ_ok {t x : Tr} {p : List Int} {w : Int} (ht : Fit t) (hx : Fit x) (h1 : size t ≤ 3000) (h2 : size x ≤ 3000) (hp : p.length ≤ 9223372036854775807) :
    CallOk Tryz.prog (callQ (cells t) (cells x) (cells (atR t p).1) (cells (putR t p x).1) (rowsZ p) w (atR t p).2 (putR t p x).2 (cntN t) (dep t) (spots (pre [] t)) false base) := by
  have ha := size_atR t p
  have hc := size_putR t x p
  have hg := great5_at t x ht hx (ob := st5 (cells t) (cells x) w) (o := 4) rfl
  rw [show (!decide (size t ≤ 3000 ∧ size x ≤ 3000)) = false from by simp [h1, h2]] at hg
  refine knownR_ok (fret_of rfl hg) <| known1_ok (fun args e => ?_) <| known1_ok (fun args e => ?_) <| known1_ok (fun args e => ?_) <| known1_ok (fun args e => ?_) <| known1_ok (fun args e => ?_) <| known1_ok (fun args e => ?_) <| known1_ok (fun args e => ?_) <| known1_ok (fun args e => ?_) <| known1_ok (fun args e => ?_) <| known1_ok (fun args e => ?_) <| knownP_ok (fun args e => ?_) base_ok
  · subst e; exact ⟨at7z t p hp, by simp [pureVals, AV.pure, pure_cells, pure_rowsZ], ptu _ _⟩
  · subst e; exact ⟨at8z t p hp, by simp [pureVals, AV.pure, pure_cells, pure_rowsZ], ptu _ _⟩
  · subst e; exact ⟨put9z p t x (by omega) hp, by simp [pureVals, AV.pure, pure_cells, pure_rowsZ], ptu _ _⟩
  · subst e; exact ⟨put10z p t x (by omega) hp, by simp [pureVals, AV.pure, pure_cells, pure_rowsZ], ptu _ _⟩
  · rcases e with rfl | rfl
    · exact ⟨same11 _ (fit_small _ (by omega)), by simp [pureVals, AV.pure, pure_cells], rfl⟩
    · exact ⟨same11 _ (fit_small _ (by omega)), by simp [pureVals, AV.pure, pure_cells], rfl⟩
  · subst e; exact ⟨count12 t ht, by simp [pureVals, AV.pure, pure_cells], rfl⟩
  · subst e; exact ⟨count13 t ht, by simp [pureVals, AV.pure, pure_cells], rfl⟩
  · subst e; exact ⟨depth14 t (by omega), by simp [pureVals, AV.pure, pure_cells], rfl⟩
  · subst e; exact ⟨depth15 t (by omega), by simp [pureVals, AV.pure, pure_cells], rfl⟩
  · subst e; exact ⟨all16 t (by omega), by simp [pureVals, AV.pure, pure_cells], by simp [AV.pure, pure_spots]⟩
  · subst e
    exact ⟨_, _, all17 t, by simp [pureVals, AV.pure, pure_cells], fun N => ⟨by simp [AV.ren, renVals, fsel], by simp [Ob.ren, renVals_pure _ _ (pure_cells _)]⟩⟩
set_option maxRecDepth 100000 in
theorem great_ret {t x : Tr} {p : List Int} {w : Int} (ht : Fit t) (hx : Fit x) (h : ¬ (size t ≤ 3000 ∧ size x ≤ 3000)) : ARet Tryz.prog 3 [tv t, tv x, .sl 1 (rowsZ p), I w] [] [] (B true) [] := by
  have hg := great5_at t x ht hx (ob := st5 (cells t) (cells x) w) (o := 4) rfl
  rw [show (!decide (size t ≤ 3000 ∧ size x ≤ 3000)) = true from by simp [h]] at hg
  have no : ∀ {q : AV → Prop} {args : List AV} {f : FuncId} {r : AV}, False → ARet Tryz.prog f args [] [] r [] ∧ pureVals args = true ∧ r.pure = true := fun h => h.elim
  have hk : CallOk Tryz.prog (known1 6 (fun args => args = []) (fun _ => B true) base) := known1_ok (fun args e => by subst e; exact ⟨wakes_ret, rfl, rfl⟩) base_ok
  have hc : CallOk Tryz.prog (knownR 5 [.sr 4 7 0 2] (st5 (cells t) (cells x) w) (B true) (known1 6 (fun args => args = []) (fun _ => B true) base)) := knownR_ok (fret_of rfl hg) hk
  obtain ⟨k, r, a, tok, ty, op, l⟩ := t
  obtain ⟨k2, r2, a2, tok2, ty2, op2, l2⟩ := x
  exact aret_fin (aret_of_run (obs := [_, _, _, _, _]) (runOne_ok hc mixed _ _) (great3 k r a tok ty op (rowsT l) k2 r2 a2 tok2 ty2 op2 (rowsT l2) (rowsZ p) w) (ac rfl (ac (dz rfl) (ac rfl (ac (dz ⟨rfl, rfl⟩) rfl))))) rfl
noncomputable def asks3 (t x A C : Tr) (p : List Int) (sp : List (List AV)) (e g cn dp w : Int) : List Bool := [true, dec ([tv t] = [tv t]), pureVals [tv t] && true && true, AV.pure (AV.sl 8 sp), dec ([tv t] = [tv t]), pureVals [tv t] && true && true, !dp != dp, true, dec ([tv t] = [tv t]), pureVals [tv t] && true && true, true, dec ([tv t] = [tv t]), pureVals [tv t] && true && true, !cn != cn, true, dec ([tv t] = [tv t]), pureVals [tv t] && true && true, true, dec ([tv t] = [tv t]), pureVals [tv t] && true && true, true, dec ([tv C, tv C] = [tv A, tv A] ∨ [tv C, tv C] = [tv C, tv C]), pureVals [tv C, tv C] && true && true, !g != g, true, dec ([tv A, tv A] = [tv A, tv A] ∨ [tv A, tv A] = [tv C, tv C]), pureVals [tv A, tv A] && true && true, !e != e, AV.pure (AV.tu [tv C, I g]), dec ([tv t, AV.sl 1 (rowsZ p), tv x] = [tv t, AV.sl 1 (rowsZ p), tv x]), pureVals [tv t, AV.sl 1 (rowsZ p), tv x] && true && true, AV.pure (AV.tu [tv C, I g]), dec ([tv t, AV.sl 1 (rowsZ p), tv x] = [tv t, AV.sl 1 (rowsZ p), tv x]), pureVals [tv t, AV.sl 1 (rowsZ p), tv x] && true && true, AV.pure (AV.tu [tv A, I e]), dec ([tv t, AV.sl 1 (rowsZ p)] = [tv t, AV.sl 1 (rowsZ p)]), pureVals [tv t, AV.sl 1 (rowsZ p)] && true && true, AV.pure (AV.tu [tv A, I e]), dec ([tv t, AV.sl 1 (rowsZ p)] = [tv t, AV.sl 1 (rowsZ p)]), pureVals [tv t, AV.sl 1 (rowsZ p)] && true && true, dec ([AV.sr 4 7 0 2] = [AV.sr 4 7 0 2] ∧ [Ob.box 25 (cells t), Ob.box 25 (cells x), Ob.box 3 [I w], Ob.box 4 [B false], Ob.row 25 7 [(cells t), (cells x)]] = [Ob.box 25 (cells t), Ob.box 25 (cells x), Ob.box 3 [I w], Ob.box 4 [B false], Ob.row 25 7 [(cells t), (cells x)]])]
abbrev o3 (T : Tr) (w : Int) : List Ob := [.box 3 [I w], .box 4 [B false], .box 35 [.sl 8 (spots (pre [] T))], .box 3 [I 0], bx T]
set_option maxRecDepth 100000 in
theorem law3 (t x : Tr) (p : List Int) (w : Int) (ht : Fit t) (hx : Fit x) (hp : p.length ≤ 9223372036854775807) : ARet Tryz.prog 3 [tv t, tv x, .sl 1 (rowsZ p), I w] [] [] (B true) [] := by
  by_cases hg : size t ≤ 3000 ∧ size x ≤ 3000
  · have hlast : Fin Tryz.prog Tryz.f3 0 (fun e o => e = .ret (B true) ∧ ∃ xs, o = [] ++ xs) (s3 11) L3 [.box 3 [I w], .box 4 [B false], .box 35 [.sl 8 (spots (pre [] t))], .box 3 [I 0], bx t] := by
      have hW := walkRoot (T := t) w hg.1
      have hlen : (spots (pre [] t)).length = size t := by simp [spots, pre_len]
      by_cases hf : Free w 0 (size t)
      · refine fin_run (obs := []) (callZ_ok (hW.1 hf)) mixed (end_a (cells t) (spots (pre [] t)) w (size t)) (ac rfl (ac (dz rfl) (ac rfl (ac (by rw [hlen]; simp) (ac (dz ⟨rfl, rfl⟩) rfl))))) rfl fun xs => ⟨rfl, xs, rfl⟩
      · obtain ⟨m, hm⟩ := stop_hit hf
        have hz := callZ_ok (hW.2 m hm)
        by_cases h1 : m = size t
        · exact fin_run (obs := []) hz mixed (end_x (cells t) (spots (pre [] t)) w m) (ac rfl (ac (dz rfl) (ac rfl (ac (by rw [hlen, h1]; simp) (ac (dz ⟨rfl, rfl⟩) rfl))))) rfl fun xs => ⟨rfl, xs, rfl⟩
        · have e1 : (!((m : Int) == (↑(List.length (spots (pre [] t))) : Int))) = true := by rw [hlen]; simp; omega
          by_cases h2 : (m : Int) = w
          · exact fin_run (obs := []) hz mixed (end_b (cells t) (spots (pre [] t)) w m) (ac rfl (ac (dz rfl) (ac rfl (ac (by simp [h2]) (ac e1 (ac (dz ⟨rfl, rfl⟩) rfl)))))) rfl fun xs => ⟨rfl, xs, rfl⟩
          · have h3 : m = 300 := hm.2.2.1.resolve_left h2
            exact fin_run (obs := []) hz mixed (end_c (cells t) (spots (pre [] t)) w m) (ac rfl (ac (dz rfl) (ac rfl (ac (by rw [h3]; rfl) (ac (by simpa using h2) (ac e1 (ac (dz ⟨rfl, rfl⟩) rfl))))))) rfl fun xs => ⟨rfl, xs, rfl⟩
    have hc := callQ_ok (w := w) ht hx hg.1 hg.2 hp
    refine aret_pcs f3 n3 bd3 (Nat.le_of_ble_eq_true rfl) (Nat.le_refl _) rfl rfl ?_
    have hps := pure_spots (pre [] t)
    generalize (atR t p).2 = e at hc
    generalize (putR t p x).2 = g at hc
    generalize cntN t = cn at hc
    generalize ((dep t : Nat) : Int) = dp at hc
    generalize (atR t p).1 = A at hc
    generalize (putR t p x).1 = C at hc
    generalize spots (pre [] t) = sp at hc hps hlast ⊢
    have hren : (bx t).ren (shf 11) = bx t := ren_bx _ _
    have hk : allT (asks3 t x A C p sp e g cn dp w) = true := by
      unfold asks3
      exact ac (rfl) (ac (dz rfl) (ac (by simp [pureVals, AV.pure, pure_tv, pure_rowsZ]) (ac (by simp [AV.pure, pureVals, pure_tv, hps]) (ac (dz rfl) (ac (by simp [pureVals, AV.pure, pure_tv, pure_rowsZ]) (ac (nn _) (ac (rfl) (ac (dz rfl) (ac (by simp [pureVals, AV.pure, pure_tv, pure_rowsZ]) (ac (rfl) (ac (dz rfl) (ac (by simp [pureVals, AV.pure, pure_tv, pure_rowsZ]) (ac (nn _) (ac (rfl) (ac (dz rfl) (ac (by simp [pureVals, AV.pure, pure_tv, pure_rowsZ]) (ac (rfl) (ac (dz rfl) (ac (by simp [pureVals, AV.pure, pure_tv, pure_rowsZ]) (ac (rfl) (ac (dz (.inr rfl)) (ac (by simp [pureVals, AV.pure, pure_tv, pure_rowsZ]) (ac (nn _) (ac (rfl) (ac (dz (.inl rfl)) (ac (by simp [pureVals, AV.pure, pure_tv, pure_rowsZ]) (ac (nn _) (ac (by simp [AV.pure, pureVals, pure_tv, hps]) (ac (dz rfl) (ac (by simp [pureVals, AV.pure, pure_tv, pure_rowsZ]) (ac (by simp [AV.pure, pureVals, pure_tv, hps]) (ac (dz rfl) (ac (by simp [pureVals, AV.pure, pure_tv, pure_rowsZ]) (ac (by simp [AV.pure, pureVals, pure_tv, hps]) (ac (dz rfl) (ac (by simp [pureVals, AV.pure, pure_tv, pure_rowsZ]) (ac (by simp [AV.pure, pureVals, pure_tv, hps]) (ac (dz rfl) (ac (by simp [pureVals, AV.pure, pure_tv, pure_rowsZ]) (ac (dz ⟨rfl, rfl⟩) (rfl)))))))))))))))))))))))))))))))))))))))))
    obtain ⟨k, r, a, tok, ty, op, l⟩ := t
    obtain ⟨k2, r2, a2, tok2, ty2, op2, l2⟩ := x
    obtain ⟨k3', r3', a3, tok3, ty3, op3, l3⟩ := A
    obtain ⟨k4, r4, a4, tok4, ty4, op4, l4⟩ := C
    refine fin_head hc mixed L3 [.box 3 [I w], .box 4 [B false], .box 35 [.sl 8 sp], .box 3 [I 0], bx (.mk k r a tok ty op l)] (h3 k r a tok ty op (rowsT l) k2 r2 a2 tok2 ty2 op2 (rowsT l2) k3' r3' a3 tok3 ty3 op3 (rowsT l3) k4 r4 a4 tok4 ty4 op4 (rowsT l4) (rowsZ p) sp w e g cn dp) hk rfl rfl rfl ?_ hlast
    exact ⟨.same _, .same _, by simp only [Ob.ren, renVals, AV.ren, renRows_pure _ _ hps]; exact .same _, .same _, by rw [ren_bx]; exact Eq.symm hren ▸ .same _, trivial⟩
  · exact great_ret ht hx hg
end Go.Proofs.YtobehholoenaiaaGreatDoor
