/- All places as the document tells them, told as memory; whether trees are too great. -/
import Derived.Test.YtobehholoenaiaaGreatDoorU4
namespace Go.Proofs.YtobehholoenaiaaGreatDoor
open Go.Am
noncomputable def call16 (u : List AV) (T : List (List AV)) : CallF := knownP 25 (fun args => args = [.ag u, nilS, nilS]) (fun _ N => .sr (N + 2) 8 0 T.length) (fun _ _ => [.dead, .dead, .row 42 8 T]) base
theorem run16 (k r a tok ty : Int) (op : Bool) (R : List (List AV)) (T : List (List AV)) : outC (runOne Tryz.prog noPu 3000 (call16 (cl k r a tok ty op R) T) 16 [.ag (cl k r a tok ty op R)] .e 0 ⟨0, [.b true], []⟩) =
    some (AV.sr 3 8 0 (List.length T), [some (Ob.box 25 [AV.v (Value.int IntKind.i8 k), I r, I a, I tok, I ty, B op, AV.sl 7 R]), some Ob.dead, some Ob.dead, some (Ob.row 42 8 (renRows (shf 1) T))], [dec ([AV.ag [AV.v (Value.int IntKind.i8 k), I r, I a, I tok, I ty, B op, AV.sl 7 R], AV.v (Value.slice none 0 0), AV.v (Value.slice none 0 0)] = [AV.ag [AV.v (Value.int IntKind.i8 k), I r, I a, I tok, I ty, B op, AV.sl 7 R], AV.v (Value.slice none 0 0), AV.v (Value.slice none 0 0)]), pureVals [AV.ag [AV.v (Value.int IntKind.i8 k), I r, I a, I tok, I ty, B op, AV.sl 7 R], AV.v (Value.slice none 0 0), AV.v (Value.slice none 0 0)] && true && true]) := by kernel_rfl
theorem run5a (k r a tok ty : Int) (op : Bool) (R : List (List AV)) (k2 r2 a2 tok2 ty2 : Int) (op2 : Bool) (R2 : List (List AV)) (m : Int) : outC (runOne Tryz.prog noPu 3000 (known1 13 (fun args => args = [.ag (cl k r a tok ty op R)]) (fun _ => I m) base) 5 [.sr 0 7 0 2] (triO [.row 25 7 [cl k r a tok ty op R, cl k2 r2 a2 tok2 ty2 op2 R2]]) 1 ⟨1, [.b true, .b true, .b true], []⟩) =
    some (B true, [some (Ob.row 25 7 [[AV.v (Value.int IntKind.i8 k), I r, I a, I tok, I ty, B op, AV.sl 7 R], [AV.v (Value.int IntKind.i8 k2), I r2, I a2, I tok2, I ty2, B op2, AV.sl 7 R2]])], [decide (m > 3000), true, dec ([AV.ag [AV.v (Value.int IntKind.i8 k), I r, I a, I tok, I ty, B op, AV.sl 7 R]] = [AV.ag [AV.v (Value.int IntKind.i8 k), I r, I a, I tok, I ty, B op, AV.sl 7 R]]), pureVals [AV.ag [AV.v (Value.int IntKind.i8 k), I r, I a, I tok, I ty, B op, AV.sl 7 R]] && true && true, true, true]) := by kernel_rfl
theorem run5b (k r a tok ty : Int) (op : Bool) (R : List (List AV)) (k2 r2 a2 tok2 ty2 : Int) (op2 : Bool) (R2 : List (List AV)) : outC (runOne Tryz.prog noPu 3000 (known1 13 (fun args => args = [.ag (cl k r a tok ty op R)] ∨ args = [.ag (cl k2 r2 a2 tok2 ty2 op2 R2)]) (fun args => I (cntN (unT (args.headD .any)))) base) 5 [.sr 0 7 0 2] (triO [.row 25 7 [cl k r a tok ty op R, cl k2 r2 a2 tok2 ty2 op2 R2]]) 1 ⟨1, [.b true, .b false, .int 1, .b true, .b true, .b true], []⟩) =
    some (B true, [some (Ob.row 25 7 [[AV.v (Value.int IntKind.i8 k), I r, I a, I tok, I ty, B op, AV.sl 7 R], [AV.v (Value.int IntKind.i8 k2), I r2, I a2, I tok2, I ty2, B op2, AV.sl 7 R2]])], [decide ((↑(min (size (unT (AV.ag [AV.v (Value.int IntKind.i8 k2), I r2, I a2, I tok2, I ty2, B op2, AV.sl 7 R2]))) 2147483647) : Int) > 3000), true, dec ([AV.ag [AV.v (Value.int IntKind.i8 k2), I r2, I a2, I tok2, I ty2, B op2, AV.sl 7 R2]] = [AV.ag [AV.v (Value.int IntKind.i8 k), I r, I a, I tok, I ty, B op, AV.sl 7 R]] ∨ [AV.ag [AV.v (Value.int IntKind.i8 k2), I r2, I a2, I tok2, I ty2, B op2, AV.sl 7 R2]] = [AV.ag [AV.v (Value.int IntKind.i8 k2), I r2, I a2, I tok2, I ty2, B op2, AV.sl 7 R2]]), pureVals [AV.ag [AV.v (Value.int IntKind.i8 k2), I r2, I a2, I tok2, I ty2, B op2, AV.sl 7 R2]] && true && true, true, true, dec ((1 : Int) = 1), !decide ((↑(min (size (unT (AV.ag [AV.v (Value.int IntKind.i8 k), I r, I a, I tok, I ty, B op, AV.sl 7 R]))) 2147483647) : Int) > 3000), true, dec ([AV.ag [AV.v (Value.int IntKind.i8 k), I r, I a, I tok, I ty, B op, AV.sl 7 R]] = [AV.ag [AV.v (Value.int IntKind.i8 k), I r, I a, I tok, I ty, B op, AV.sl 7 R]] ∨ [AV.ag [AV.v (Value.int IntKind.i8 k), I r, I a, I tok, I ty, B op, AV.sl 7 R]] = [AV.ag [AV.v (Value.int IntKind.i8 k2), I r2, I a2, I tok2, I ty2, B op2, AV.sl 7 R2]]), pureVals [AV.ag [AV.v (Value.int IntKind.i8 k), I r, I a, I tok, I ty, B op, AV.sl 7 R]] && true && true, true, true]) := by kernel_rfl
theorem run5c (k r a tok ty : Int) (op : Bool) (R : List (List AV)) (k2 r2 a2 tok2 ty2 : Int) (op2 : Bool) (R2 : List (List AV)) : outC (runOne Tryz.prog noPu 3000 (known1 13 (fun args => args = [.ag (cl k r a tok ty op R)] ∨ args = [.ag (cl k2 r2 a2 tok2 ty2 op2 R2)]) (fun args => I (cntN (unT (args.headD .any)))) base) 5 [.sr 0 7 0 2] (triO [.row 25 7 [cl k r a tok ty op R, cl k2 r2 a2 tok2 ty2 op2 R2]]) 1 ⟨1, [.b true, .b false, .int 1, .b true, .b false, .int 2, .b false, .b true], []⟩) =
    some (B false, [some (Ob.row 25 7 [[AV.v (Value.int IntKind.i8 k), I r, I a, I tok, I ty, B op, AV.sl 7 R], [AV.v (Value.int IntKind.i8 k2), I r2, I a2, I tok2, I ty2, B op2, AV.sl 7 R2]])], [true, dec ((2 : Int) = 2), !decide ((↑(min (size (unT (AV.ag [AV.v (Value.int IntKind.i8 k2), I r2, I a2, I tok2, I ty2, B op2, AV.sl 7 R2]))) 2147483647) : Int) > 3000), true, dec ([AV.ag [AV.v (Value.int IntKind.i8 k2), I r2, I a2, I tok2, I ty2, B op2, AV.sl 7 R2]] = [AV.ag [AV.v (Value.int IntKind.i8 k), I r, I a, I tok, I ty, B op, AV.sl 7 R]] ∨ [AV.ag [AV.v (Value.int IntKind.i8 k2), I r2, I a2, I tok2, I ty2, B op2, AV.sl 7 R2]] = [AV.ag [AV.v (Value.int IntKind.i8 k2), I r2, I a2, I tok2, I ty2, B op2, AV.sl 7 R2]]), pureVals [AV.ag [AV.v (Value.int IntKind.i8 k2), I r2, I a2, I tok2, I ty2, B op2, AV.sl 7 R2]] && true && true, true, true, dec ((1 : Int) = 1), !decide ((↑(min (size (unT (AV.ag [AV.v (Value.int IntKind.i8 k), I r, I a, I tok, I ty, B op, AV.sl 7 R]))) 2147483647) : Int) > 3000), true, dec ([AV.ag [AV.v (Value.int IntKind.i8 k), I r, I a, I tok, I ty, B op, AV.sl 7 R]] = [AV.ag [AV.v (Value.int IntKind.i8 k), I r, I a, I tok, I ty, B op, AV.sl 7 R]] ∨ [AV.ag [AV.v (Value.int IntKind.i8 k), I r, I a, I tok, I ty, B op, AV.sl 7 R]] = [AV.ag [AV.v (Value.int IntKind.i8 k2), I r2, I a2, I tok2, I ty2, B op2, AV.sl 7 R2]]), pureVals [AV.ag [AV.v (Value.int IntKind.i8 k), I r, I a, I tok, I ty, B op, AV.sl 7 R]] && true && true, true, true]) := by kernel_rfl

theorem all25nn (t : Tr) (hs : size t ≤ 50000) : ARet Tryz.prog 25 [tv t, nilS, nilS] [] [] (.sr 2 8 0 (spots (pre [] t)).length) [.dead, .dead, .row 42 8 (spots (pre [] t))] := by
  have h := all25n t [] (by simp; omega)
  refine aret_case h.1 fun m γ vs hv => ⟨[tv t, sI [], nilS], ?_, h⟩
  simp only [RepVals] at hv ⊢
  obtain ⟨x, r, e, h1, y, s, e2, h2, h3⟩ := hv
  exact ⟨x, r, e, h1, y, s, e2, weak_nil y h2, h3⟩
theorem all16 (t : Tr) (hs : size t ≤ 50000) : ARet Tryz.prog 16 [tv t] [] [] (.sl 8 (spots (pre [] t))) [] := by
  have hc : CallOk Tryz.prog (call16 (cells t) (spots (pre [] t))) := knownP_ok (fun args e => by
    subst e
    exact ⟨_, _, all25nn t hs, by simp [pureVals, AV.pure, pure_cells], fun N => ⟨by simp [AV.ren, fsel], by simp [Ob.ren, renRows_pure _ _ (pure_spots _)]⟩⟩) base_ok
  have hp := pure_spots (pre [] t)
  generalize spots (pre [] t) = T at hc hp ⊢
  obtain ⟨k, r, a, tok, ty, op, l⟩ := t
  have hr := run16 k r a tok ty op (rowsT l) T
  rw [renRows_pure _ _ hp] at hr
  refine aret_fin (aret_frz (aret_of_run (obs := [_, .dead, .dead, _]) (runOne_ok hc mixed _ _) hr ?_) (o := 3) (X := .row 42 8 T) rfl (.inl ⟨_, _, _, rfl⟩) (Frz.sr0 rfl rfl) (List.length_map ..) all_dead) (by simp [AV.und, undRows_pure _ _ hp])
  exact ac (dz rfl) (ac (by simp [pureVals, AV.pure, pure_rowsT]) rfl)
/-- two trees, one behind the other -/
abbrev gr (t x : Tr) : Ob := .row 25 7 [cells t, cells x]
theorem k13c {t x : Tr} (ht : Fit t) (hx : Fit x) : CallOk Tryz.prog (known1 13 (fun args => args = [tv t] ∨ args = [tv x]) (fun args => I (cntN (unT (args.headD .any)))) base) := known1_ok (fun args e => by
  rcases e with rfl | rfl
  · exact ⟨by simp only [List.headD_cons, unT_tv]; exact count13 t ht, by simp [pureVals, pure_tv], rfl⟩
  · exact ⟨by simp only [List.headD_cons, unT_tv]; exact count13 x hx, by simp [pureVals, pure_tv], rfl⟩) base_ok
theorem c_gt {t : Tr} (h : ¬ size t ≤ 3000) : decide ((↑(min (size (unT (tv t))) 2147483647) : Int) > 3000) = true := by
  rw [unT_tv, decide_eq_true_eq]
  omega
theorem c_le {t : Tr} (h : size t ≤ 3000) : (!decide ((↑(min (size (unT (tv t))) 2147483647) : Int) > 3000)) = true := by
  rw [unT_tv]
  simp
  omega
theorem great5 (t x : Tr) (ht : Fit t) (hx : Fit x) : ARet Tryz.prog 5 [.sr 0 7 0 2] [gr t x] [] (B (!decide (size t ≤ 3000 ∧ size x ≤ 3000))) [gr t x] := by
  have hp : ∀ u : Tr, (pureVals [tv u] && true && true) = true := fun u => by simp [pureVals, pure_tv]
  by_cases h1 : size t ≤ 3000
  · by_cases h2 : size x ≤ 3000
    · rw [show (!decide (size t ≤ 3000 ∧ size x ≤ 3000)) = false from by simp [h1, h2]]
      have hk := ac (rfl : true = true) (ac (dz (rfl : (2 : Int) = 2)) (ac (c_le h2) (ac rfl (ac (dz (.inr rfl : [tv x] = [tv t] ∨ [tv x] = [tv x])) (ac (hp x) (ac rfl (ac rfl (ac (dz (rfl : (1 : Int) = 1)) (ac (c_le h1) (ac rfl (ac (dz (.inl rfl : [tv t] = [tv t] ∨ [tv t] = [tv x])) (ac (hp t) (ac rfl (ac rfl (rfl : allT [] = true)))))))))))))))
      have hc := k13c ht hx
      obtain ⟨k, r, a, tok, ty, op, l⟩ := t
      obtain ⟨k2, r2, a2, tok2, ty2, op2, l2⟩ := x
      exact aret_of_runB (ob := [_]) (obs := [_]) (runOne_ok hc mixed _ _) (run5c k r a tok ty op (rowsT l) k2 r2 a2 tok2 ty2 op2 (rowsT l2)) hk
    · rw [show (!decide (size t ≤ 3000 ∧ size x ≤ 3000)) = true from by simp [h2]]
      have hk := ac (c_gt h2) (ac (rfl : true = true) (ac (dz (.inr rfl : [tv x] = [tv t] ∨ [tv x] = [tv x])) (ac (hp x) (ac rfl (ac rfl (ac (dz (rfl : (1 : Int) = 1)) (ac (c_le h1) (ac rfl (ac (dz (.inl rfl : [tv t] = [tv t] ∨ [tv t] = [tv x])) (ac (hp t) (ac rfl (ac rfl (rfl : allT [] = true)))))))))))))
      have hc := k13c ht hx
      obtain ⟨k, r, a, tok, ty, op, l⟩ := t
      obtain ⟨k2, r2, a2, tok2, ty2, op2, l2⟩ := x
      exact aret_of_runB (ob := [_]) (obs := [_]) (runOne_ok hc mixed _ _) (run5b k r a tok ty op (rowsT l) k2 r2 a2 tok2 ty2 op2 (rowsT l2)) hk
  · rw [show (!decide (size t ≤ 3000 ∧ size x ≤ 3000)) = true from by simp [h1]]
    have hc : CallOk Tryz.prog (known1 13 (fun args => args = [tv t]) (fun _ => I (cntN t)) base) := known1_ok (fun args e => by subst e; exact ⟨count13 t ht, by simp [pureVals, pure_tv], rfl⟩) base_ok
    have hk := ac (show decide (cntN t > 3000) = true from by unfold cntN; exact decide_eq_true (by omega)) (ac (rfl : true = true) (ac (dz (rfl : [tv t] = [tv t])) (ac (hp t) (ac rfl (ac rfl (rfl : allT [] = true))))))
    generalize cntN t = m at hc hk
    obtain ⟨k, r, a, tok, ty, op, l⟩ := t
    obtain ⟨k2, r2, a2, tok2, ty2, op2, l2⟩ := x
    exact aret_of_runB (ob := [_]) (obs := [_]) (runOne_ok hc mixed _ _) (run5a k r a tok ty op (rowsT l) k2 r2 a2 tok2 ty2 op2 (rowsT l2) m) hk
theorem great5_at (t x : Tr) (ht : Fit t) (hx : Fit x) {ob : List Ob} {o : Nat} (ho : ob[o]? = some (gr t x)) : ARet Tryz.prog 5 [.sr o 7 0 2] ob [] (B (!decide (size t ≤ 3000 ∧ size x ≤ 3000))) ob := by
  have h := aret_sel (great5 t x ht hx) (fun g => by simp [Ob.ren, renRows, renVals_pure _ _ (pure_cells _)]) (by simp) rfl ho
  have e : renVals (fsel [o] ob.length) [.sr 0 7 0 2] = [.sr o 7 0 2] := by
    simp only [renVals, AV.ren]
    rw [fsel_lt (sel := [o]) (i := 0) (s := o) rfl]
  rwa [e] at h
end Go.Proofs.YtobehholoenaiaaGreatDoor
