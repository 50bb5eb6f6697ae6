/- The law: it returns true. -/
import Derived.Test.YtobehholoenaiaaGreatDoorTE
namespace Go.Proofs.YtobehholoenaiaaGreatDoor
open Go.Am
noncomputable def st7r (t x : Tr) (w : Int) : List Ob := [.box 25 (cells t), .box 25 (cells x), .box 3 [I w], .box 4 [B false], .box 3 [I 0], (bx t).ren (shf 5), lp4 t x w]
theorem st7r_eq (t x : Tr) (w : Int) : st7r t x w = st7 t x w := by
  unfold st7r
  rw [ren_bx]
  rfl
noncomputable def asksL (t x : Tr) (w n : Int) : List Bool := [true, dec (([] : List AV) = []), true, n == cu t, true, dec ([tv t] = [tv t]), pureVals [tv t] && true && true, dec ([AV.yl 6, .pt 5 0] = [.yl 6, .pt 5 0] ∧ st7r t x w = st7 t x w),
  true, dec ([tv t] = [tv t]), pureVals [tv t] && true && true, !decide (cu x > 300), true, dec ([tv x] = [tv t] ∨ [tv x] = [tv x]), pureVals [tv x] && true && true, !decide (cu t > 300), true, dec ([tv t] = [tv t] ∨ [tv t] = [tv x]), pureVals [tv t] && true && true]
noncomputable def obL (t x : Tr) (w n : Int) (path : AV) : List Ob := [bx t, bx x, .box 3 [I w], .box 4 [B true], .box 3 [I n], bx t, .dead, .box 58 [.yl 6], .box 26 [path], .box 59 [.fn (.func 27) [] [.pt 7 0, .pt 8 0, .pt 9 0]]]
theorem law_e (k r a tok ty : Int) (op : Bool) (k2 r2 a2 tok2 ty2 : Int) (op2 : Bool) (l2 : List Tr) (w n : Int) : outC (runOne Tryz.prog noPu 3000 (callL (uu k r a tok ty op []) (uu k2 r2 a2 tok2 ty2 op2 l2) w (st (uu k r a tok ty op []) (uu k2 r2 a2 tok2 ty2 op2 l2) w n nilS)) 4 [tv (uu k r a tok ty op []), tv (uu k2 r2 a2 tok2 ty2 op2 l2), I w] .e 0 ⟨0, [.b false, .b false, .b false, .b true, .b true], []⟩) =
    some (B true, (obL (uu k r a tok ty op []) (uu k2 r2 a2 tok2 ty2 op2 l2) w n nilS).map some, asksL (uu k r a tok ty op []) (uu k2 r2 a2 tok2 ty2 op2 l2) w n) := by kernel_rfl
theorem law_c (k r a tok ty : Int) (op : Bool) (l : List Tr) (k2 r2 a2 tok2 ty2 : Int) (op2 : Bool) (l2 : List Tr) (w n : Int) : outC (runOne Tryz.prog noPu 3000 (callL (uu k r a tok ty op l) (uu k2 r2 a2 tok2 ty2 op2 l2) w (stR (uu k r a tok ty op l) (uu k2 r2 a2 tok2 ty2 op2 l2) (uu k r a tok ty op l) w n)) 4 [tv (uu k r a tok ty op l), tv (uu k2 r2 a2 tok2 ty2 op2 l2), I w] .e 0 ⟨0, [.b false, .b false, .b false, .b true, .b true], []⟩) =
    some (B true, (obL (uu k r a tok ty op l) (uu k2 r2 a2 tok2 ty2 op2 l2) w n (.sr 11 1 0 0) ++ [bx (uu k r a tok ty op l), rp []]).map some, asksL (uu k r a tok ty op l) (uu k2 r2 a2 tok2 ty2 op2 l2) w n) := by kernel_rfl
noncomputable def callG (t x : Tr) : CallF := known1 13 (fun args => args = [tv t] ∨ args = [tv x]) (fun args => I (cntN (unT (args.headD .any)))) <| known1 6 (fun args => args = []) (fun _ => B true) base
theorem great_t (k r a tok ty : Int) (op : Bool) (l : List Tr) (k2 r2 a2 tok2 ty2 : Int) (op2 : Bool) (l2 : List Tr) (w : Int) : outC (runOne Tryz.prog noPu 3000 (callG (uu k r a tok ty op l) (uu k2 r2 a2 tok2 ty2 op2 l2)) 4 [tv (uu k r a tok ty op l), tv (uu k2 r2 a2 tok2 ty2 op2 l2), I w] .e 0 ⟨0, [.b true, .b true], []⟩) =
    some (B true, [bx (uu k r a tok ty op l), bx (uu k2 r2 a2 tok2 ty2 op2 l2), .box 3 [I w], .box 4 [B true]].map some, [true, dec (([] : List AV) = []), true, decide (cu (uu k r a tok ty op l) > 300), true, dec ([tv (uu k r a tok ty op l)] = [tv (uu k r a tok ty op l)] ∨ [tv (uu k r a tok ty op l)] = [tv (uu k2 r2 a2 tok2 ty2 op2 l2)]), pureVals [tv (uu k r a tok ty op l)] && true && true]) := by kernel_rfl
theorem great_x (k r a tok ty : Int) (op : Bool) (l : List Tr) (k2 r2 a2 tok2 ty2 : Int) (op2 : Bool) (l2 : List Tr) (w : Int) : outC (runOne Tryz.prog noPu 3000 (callG (uu k r a tok ty op l) (uu k2 r2 a2 tok2 ty2 op2 l2)) 4 [tv (uu k r a tok ty op l), tv (uu k2 r2 a2 tok2 ty2 op2 l2), I w] .e 0 ⟨0, [.b false, .b true, .b true], []⟩) =
    some (B true, [bx (uu k r a tok ty op l), bx (uu k2 r2 a2 tok2 ty2 op2 l2), .box 3 [I w], .box 4 [B true]].map some, [true, dec (([] : List AV) = []), true, decide (cu (uu k2 r2 a2 tok2 ty2 op2 l2) > 300), true, dec ([tv (uu k2 r2 a2 tok2 ty2 op2 l2)] = [tv (uu k r a tok ty op l)] ∨ [tv (uu k2 r2 a2 tok2 ty2 op2 l2)] = [tv (uu k2 r2 a2 tok2 ty2 op2 l2)]), pureVals [tv (uu k2 r2 a2 tok2 ty2 op2 l2)] && true && true,
      !decide (cu (uu k r a tok ty op l) > 300), true, dec ([tv (uu k r a tok ty op l)] = [tv (uu k r a tok ty op l)] ∨ [tv (uu k r a tok ty op l)] = [tv (uu k2 r2 a2 tok2 ty2 op2 l2)]), pureVals [tv (uu k r a tok ty op l)] && true && true]) := by kernel_rfl
theorem dz {q : Prop} (h : q) : dec q = true := dec_true.2 h
theorem k13 {t x : Tr} (ht : Fit t) (hx : Fit x) (args : List AV) (e : args = [tv t] ∨ args = [tv x]) : ARet Tryz.prog 13 args [] [] (I (cntN (unT (args.headD .any)))) [] ∧ pureVals args = true ∧ (I (cntN (unT (args.headD .any)))).pure = true := by
  rcases e with rfl | rfl
  · exact ⟨by simp only [List.headD_cons, unT_tv]; exact count13 t ht, by simp [pureVals, pure_tv], rfl⟩
  · exact ⟨by simp only [List.headD_cons, unT_tv]; exact count13 x hx, by simp [pureVals, pure_tv], rfl⟩
theorem k6 (args : List AV) (e : args = []) : ARet Tryz.prog 6 args [] [] (B true) [] ∧ pureVals args = true ∧ (B true).pure = true := by subst e; exact ⟨wakes_ret, rfl, rfl⟩
theorem callG_ok {t x : Tr} (ht : Fit t) (hx : Fit x) : CallOk Tryz.prog (callG t x) := known1_ok (k13 ht hx) (known1_ok k6 base_ok)
theorem callL_ok {t x : Tr} {w : Int} {fin : List Ob} (ht : Fit t) (hx : Fit x) (h : FRet Tryz.prog 26 [.yl 6, .pt 5 0] (st7 t x w) (.tu []) fin) : CallOk Tryz.prog (callL t x w fin) :=
  known1_ok (k13 ht hx) <|
  knownP_ok (fun args e => by
    subst e
    exact ⟨_, _, all17 t, by simp [pureVals, pure_tv], fun N => ⟨by simp [AV.ren, renVals, fsel], by simp [Ob.ren, renVals_pure _ _ (pure_cells _)]⟩⟩) <|
  knownS_ok h <| known1_ok k6 <| known1_ok (fun args e => by
    subst e
    exact ⟨by simp only [List.headD_cons, unT_tv]; exact count12 t ht, by simp [pureVals, pure_tv], rfl⟩) base_ok
theorem pt1 (u : Tr) : (pureVals [tv u] && true && true) = true := by simp [pureVals, pure_tv]
theorem cu_gt {t : Tr} (h : ¬ size t ≤ 300) : decide (cu t > 300) = true := by
  simp only [cu, unT_tv, cntN, decide_eq_true_eq]
  omega
theorem cu_le {t : Tr} (h : size t ≤ 300) : (!decide (cu t > 300)) = true := by
  rw [cu_eq t (by omega)]
  simp
  omega
/-- WHAT THE LAW COMES TO. -/
theorem law4 (t x : Tr) (w : Int) (ht : Fit t) (hx : Fit x) : ARet Tryz.prog 4 [tv t, tv x, I w] [] [] (B true) [] := by
  by_cases h1 : size t ≤ 300
  · by_cases h2 : size x ≤ 300
    · have hc := callL_ok ht hx (all26 w h1 h2)
      have e1 := cu_eq t (by omega)
      have hk : allT (asksL t x w (size t)) = true := ac rfl (ac (dz rfl) (ac rfl (ac (by rw [e1]; simp) (ac rfl (ac (dz rfl) (ac (pt1 t) (ac (dz ⟨rfl, st7r_eq t x w⟩) (ac rfl (ac (dz rfl) (ac (pt1 t) (ac (cu_le h2) (ac rfl (ac (dz (.inr rfl)) (ac (pt1 x) (ac (cu_le h1) (ac rfl (ac (dz (.inl rfl)) (ac (pt1 t) rfl))))))))))))))))))
      obtain ⟨k, r, a, tok, ty, op, l⟩ := t
      obtain ⟨k2, r2, a2, tok2, ty2, op2, l2⟩ := x
      cases l with
      | nil => exact aret_fin (aret_of_run (obs := obL _ _ _ _ _) (runOne_ok hc mixed _ _) (law_e k r a tok ty op k2 r2 a2 tok2 ty2 op2 l2 w _) hk) rfl
      | cons u l => exact aret_fin (aret_of_run (obs := obL _ _ _ _ _ ++ [_, _]) (runOne_ok hc mixed _ _) (law_c k r a tok ty op (u :: l) k2 r2 a2 tok2 ty2 op2 l2 w _) hk) rfl
    · have hc := callG_ok ht hx
      have hk : allT [true, dec (([] : List AV) = []), true, decide (cu x > 300), true, dec ([tv x] = [tv t] ∨ [tv x] = [tv x]), pureVals [tv x] && true && true, !decide (cu t > 300), true, dec ([tv t] = [tv t] ∨ [tv t] = [tv x]), pureVals [tv t] && true && true] = true :=
        ac rfl (ac (dz rfl) (ac rfl (ac (cu_gt h2) (ac rfl (ac (dz (.inr rfl)) (ac (pt1 x) (ac (cu_le h1) (ac rfl (ac (dz (.inl rfl)) (ac (pt1 t) rfl))))))))))
      obtain ⟨k, r, a, tok, ty, op, l⟩ := t
      obtain ⟨k2, r2, a2, tok2, ty2, op2, l2⟩ := x
      exact aret_fin (aret_of_run (runOne_ok hc mixed _ _) (great_x k r a tok ty op l k2 r2 a2 tok2 ty2 op2 l2 w) hk) rfl
  · have hc := callG_ok ht hx
    have hk : allT [true, dec (([] : List AV) = []), true, decide (cu t > 300), true, dec ([tv t] = [tv t] ∨ [tv t] = [tv x]), pureVals [tv t] && true && true] = true :=
      ac rfl (ac (dz rfl) (ac rfl (ac (cu_gt h1) (ac rfl (ac (dz (.inl rfl)) (ac (pt1 t) rfl))))))
    obtain ⟨k, r, a, tok, ty, op, l⟩ := t
    obtain ⟨k2, r2, a2, tok2, ty2, op2, l2⟩ := x
    exact aret_fin (aret_of_run (runOne_ok hc mixed _ _) (great_t k r a tok ty op l k2 r2 a2 tok2 ty2 op2 l2 w) hk) rfl
end Go.Proofs.YtobehholoenaiaaGreatDoor
