/- What a round does to the store, told by the places of a tree. -/
import Derived.Test.YtobehholoenaiaaGreatDoorT8
namespace Go.Proofs.YtobehholoenaiaaGreatDoor
open Go.Am
mutual
theorem fit_small : ∀ t : Tr, size t ≤ 100000 → Fit t
  | .mk _ _ _ _ _ _ l, h => by
    simp only [size] at h
    have := length_sizes l
    simp only [Fit]
    exact ⟨by omega, fits_small l (by omega)⟩
theorem fits_small : ∀ l : List Tr, sizes l ≤ 100000 → Fits l
  | [], _ => by simp [Fits]
  | t :: l, h => by
    simp only [sizes] at h
    simp only [Fits]
    exact ⟨fit_small t (by omega), fits_small l (by omega)⟩
end
theorem sizes_set : ∀ (l : List Tr) (i : Nat) (u v : Tr), l[i]? = some u → sizes (l.set i v) + size u = sizes l + size v
  | [], i, u, v, h => by simp at h
  | t :: l, 0, u, v, h => by simp at h; subst h; simp only [List.set_cons_zero, sizes]; omega
  | t :: l, i + 1, u, v, h => by
    have := sizes_set l i u v (by simpa using h)
    simp only [List.set_cons_succ, sizes]
    omega
theorem size_put : ∀ (p : List Nat) (t x y : Tr), atF t p = some y → size (putF t p x) + size y = size t + size x
  | [], t, x, y, h => by simp only [atF, Option.some.injEq] at h; subst h; simp only [putF]; omega
  | i :: p, .mk k r a tok ty op l, x, y, h => by
    simp only [atF, Tr.kids] at h
    cases hk : l[i]? with
    | none => rw [hk] at h; cases h
    | some u =>
      rw [hk] at h
      have h1 := size_put p u x y h
      have h2 := sizes_set l i u (putF u p x) hk
      simp only [putF, Tr.kids, hk, Tr.withKids, size]
      omega
theorem atF_put : ∀ (p : List Nat) (t x y : Tr), atF t p = some y → atF (putF t p x) p = some x
  | [], t, x, y, _ => by simp [putF, atF]
  | i :: p, .mk k r a tok ty op l, x, y, h => by
    simp only [atF, Tr.kids] at h
    cases hk : l[i]? with
    | none => rw [hk] at h; cases h
    | some u =>
      rw [hk] at h
      have hi := (List.getElem?_eq_some_iff.1 hk).1
      simp only [putF, Tr.kids, hk, Tr.withKids, atF, List.getElem?_set_self hi]
      exact atF_put p u x y h
theorem put_same : ∀ (p : List Nat) (t y : Tr), atF t p = some y → putF t p y = t
  | [], t, y, h => by simpa [putF, atF] using h.symm
  | i :: p, .mk k r a tok ty op l, y, h => by
    simp only [atF, Tr.kids] at h
    cases hk : l[i]? with
    | none => rw [hk] at h; cases h
    | some u =>
      rw [hk] at h
      simp only [putF, Tr.kids, hk, Tr.withKids, put_same p u y h]
      congr 1
      apply List.ext_getElem?
      intro j
      rw [List.getElem?_set]
      split
      · rename_i e; subst e
        rw [if_pos (List.getElem?_eq_some_iff.1 hk).1, hk]
      · rfl
theorem path_size : ∀ (p : List Nat) (t y : Tr), atF t p = some y → p.length + size y ≤ size t
  | [], t, y, h => by simp only [atF, Option.some.injEq] at h; subst h; simp
  | i :: p, .mk k r a tok ty op l, y, h => by
    simp only [atF, Tr.kids] at h
    cases hk : l[i]? with
    | none => rw [hk] at h; cases h
    | some u =>
      rw [hk] at h
      have h1 := path_size p u y h
      have h2 := size_kid hk
      simp only [size, List.length_cons]
      omega
theorem callA_ok {t y : Tr} {p : List Nat} (ht : size t ≤ 300) (h : atF t p = some y) : CallOk Tryz.prog (callA t y p) := by
  have hp := path_size p t y h
  refine known1_ok (fun args e => ?_) (known1_ok (fun args e => ?_) (known1_ok (fun args e => ?_) base_ok))
  · subst e; exact ⟨at7 t y p (by omega) h, by simp [pureVals, AV.pure, pure_tv, pure_rowsI], by simp [pureVals, AV.pure, pure_tv]⟩
  · subst e
    have := put9 p t y y h (by omega) (by omega)
    rw [put_same p t y h] at this
    exact ⟨this, by simp [pureVals, AV.pure, pure_tv, pure_rowsI], by simp [pureVals, AV.pure, pure_tv]⟩
  · rcases e with rfl | rfl
    · exact ⟨same11 y (fit_small y (by omega)), by simp [pureVals, pure_tv], rfl⟩
    · exact ⟨same11 t (fit_small t (by omega)), by simp [pureVals, pure_tv], rfl⟩
theorem callB_ok {t x y : Tr} {p : List Nat} (ht : size t ≤ 300) (hx : size x ≤ 300) (h : atF t p = some y) : CallOk Tryz.prog (callB t x (putF t p x) p) := by
  have hp := path_size p t y h
  refine known1_ok (fun args e => ?_) (known1_ok (fun args e => ?_) (known1_ok (fun args e => ?_) (known1_ok (fun args e => ?_) base_ok)))
  · subst e; exact ⟨put9 p t x y h (by omega) (by omega), by simp [pureVals, AV.pure, pure_tv, pure_rowsI], by simp [pureVals, AV.pure, pure_tv]⟩
  · subst e; exact ⟨at7 _ x p (by omega) (atF_put p t x y h), by simp [pureVals, AV.pure, pure_tv, pure_rowsI], by simp [pureVals, AV.pure, pure_tv]⟩
  · subst e; exact ⟨same11 x (fit_small x (by omega)), by simp [pureVals, pure_tv], rfl⟩
  · obtain ⟨u, rfl, hu⟩ := e
    refine ⟨?_, by simp [pureVals, pure_tv], rfl⟩
    simp only [List.headD_cons, unT_tv]
    exact count12 u (fit_small u hu)
theorem cu_eq (t : Tr) (h : size t ≤ 100000) : cu t = size t := by
  simp only [cu, unT_tv, cntN]
  omega
theorem asksS_ok (t y : Tr) (p : List Nat) : allT (asksS t y p) = true := by
  have d1 : ∀ {q : Prop}, q → dec q = true := fun h => dec_true.2 h
  refine ac rfl (ac (d1 (.inr rfl)) (ac (by simp [pureVals, pure_tv]) (ac rfl (ac (d1 (.inl rfl)) (ac (by simp [pureVals, pure_tv]) (ac rfl (ac rfl (ac (by simp [pureVals, AV.pure, pure_tv]) (ac (d1 rfl) (ac (by simp [pureVals, AV.pure, pure_tv, pure_rowsI])
    (ac (by simp [pureVals, AV.pure, pure_tv]) (ac (d1 rfl) (ac (by simp [pureVals, AV.pure, pure_tv, pure_rowsI]) rfl)))))))))))))
theorem asksA_ok (t y : Tr) (p : List Nat) (n : Nat) (w : Int) (hn : n ≤ 100000) (hw : (n : Int) ≠ w) : allT (asksA t y p n w) = true :=
  ac (dec_true.2 (wrap64 (by omega) (by omega))) (ac (by simp [hw]) (asksS_ok t y p))
theorem asksB_ok (t x y c : Tr) (p : List Nat) (n : Nat) (hn : n ≤ 100000) (ht : size t ≤ 300) (hx : size x ≤ 300) (hy : size y ≤ 300) (hc : size c + size y = size t + size x) : allT (asksB t x y c p n n ((size t : Int) - size y) (size c)) = true := by
  have d1 : ∀ {q : Prop}, q → dec q = true := fun h => dec_true.2 h
  have p1 : ∀ u : Tr, (pureVals [tv u] && true && true) = true := fun u => by simp [pureVals, pure_tv]
  refine ac (d1 (wrap64 (by omega) (by omega))) (ac (by rw [cu_eq c (by omega)]; simp) (ac (d1 (by rw [cu_eq x (by omega), wrap64 (by omega) (by omega)]; omega)) (ac rfl (ac (d1 ⟨x, rfl, by omega⟩) (ac (p1 x) (ac (d1 (by rw [cu_eq t (by omega), cu_eq y (by omega), wrap64 (by omega) (by omega)]))
    (ac rfl (ac (d1 ⟨y, rfl, by omega⟩) (ac (p1 y) (ac rfl (ac (d1 ⟨t, rfl, by omega⟩) (ac (p1 t) (ac rfl (ac (d1 ⟨c, rfl, by omega⟩) (ac (p1 c)
    (ac rfl (ac (d1 rfl) (ac (by simp [pureVals, pure_tv]) (ac rfl (ac rfl (ac (by simp [pureVals, AV.pure, pure_tv]) (ac (d1 rfl) (ac (by simp [pureVals, AV.pure, pure_tv, pure_rowsI])
    (ac (by simp [pureVals, AV.pure, pure_tv]) (ac (d1 rfl) (ac (by simp [pureVals, AV.pure, pure_tv, pure_rowsI]) (ac (by simp) (asksS_ok t y p))))))))))))))))))))))))))))
/-- what a round leaves behind the store -/
def lefts (t x y : Tr) (p : List Nat) (w : Int) (n : Nat) : List Ob := if (n : Int) = w then [bx y, bx y, bx y, bx t, bx (putF t p x), bx x] else [bx y, bx y, bx y, bx t]
theorem round_n (t x y : Tr) (p : List Nat) (w : Int) (n : Nat) (ht : size t ≤ 300) (hx : size x ≤ 300) (h : atF t p = some y) (hn : n ≤ 100000) :
    FRet Tryz.prog (yBase + 6) [sI p, tv y] (st t x w n (.sr 10 1 0 p.length) ++ [rp p, bx y]) (B true) (st t x w (n + 1 : Nat) (.sr 10 1 0 p.length) ++ rp p :: lefts t x y p w n) := by
  have hp := path_size p t y h
  have hA := callA_ok ht h
  have hB := callB_ok ht hx h
  have hsz := size_put p t x y h
  have hy : size y ≤ 300 := by omega
  unfold lefts
  split
  · rename_i hw
    subst hw
    generalize hc : putF t p x = c at hB hsz ⊢
    obtain ⟨k, r, a, tok, ty, op, l⟩ := t
    obtain ⟨k2, r2, a2, tok2, ty2, op2, l2⟩ := x
    obtain ⟨k3, r3, a3, tok3, ty3, op3, l3⟩ := y
    obtain ⟨k4, r4, a4, tok4, ty4, op4, l4⟩ := c
    exact fret_of_run (runOne_ok (atG_ok (k := 8) hA hB) mixed _ _) (rndB_n k r a tok ty op l k2 r2 a2 tok2 ty2 op2 l2 k3 r3 a3 tok3 ty3 op3 l3 k4 r4 a4 tok4 ty4 op4 l4 n n _ _ p) (asksB_ok _ _ _ _ p n hn ht hx hy hsz)
  · rename_i hw
    obtain ⟨k, r, a, tok, ty, op, l⟩ := t
    obtain ⟨k3, r3, a3, tok3, ty3, op3, l3⟩ := y
    exact fret_of_run (runOne_ok hA mixed _ _) (rndA_n k r a tok ty op l x k3 r3 a3 tok3 ty3 op3 l3 w n p) (asksA_ok _ _ p n w hn hw)
theorem round_r (t x : Tr) (w : Int) (n : Nat) (ht : size t ≤ 300) (hx : size x ≤ 300) (hn : n ≤ 100000) :
    FRet Tryz.prog (yBase + 6) [sI [], tv t] (st t x w n nilS ++ [bx t]) (B true) (st t x w (n + 1 : Nat) nilS ++ lefts t x t [] w n) := by
  have h : atF t [] = some t := rfl
  have hA := callA_ok ht h
  have hB := callB_ok ht hx h
  have hsz := size_put [] t x t h
  unfold lefts
  split
  · rename_i hw
    subst hw
    generalize hc : putF t [] x = c at hB hsz ⊢
    obtain ⟨k, r, a, tok, ty, op, l⟩ := t
    obtain ⟨k2, r2, a2, tok2, ty2, op2, l2⟩ := x
    obtain ⟨k4, r4, a4, tok4, ty4, op4, l4⟩ := c
    exact fret_of_run (runOne_ok (atG_ok (k := 8) hA hB) mixed _ _) (rndB_r k r a tok ty op l k2 r2 a2 tok2 ty2 op2 l2 k r a tok ty op l k4 r4 a4 tok4 ty4 op4 l4 n n _ _) (asksB_ok _ _ _ _ [] n hn ht hx ht hsz)
  · rename_i hw
    obtain ⟨k, r, a, tok, ty, op, l⟩ := t
    exact fret_of_run (runOne_ok hA mixed _ _) (rndA_r k r a tok ty op l x k r a tok ty op l w n) (asksA_ok _ _ [] n w hn hw)
end Go.Proofs.YtobehholoenaiaaGreatDoor
