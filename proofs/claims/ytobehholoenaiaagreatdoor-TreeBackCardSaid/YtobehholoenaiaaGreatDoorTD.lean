/- The walk over a tree goes over all its places. -/
import Derived.Test.YtobehholoenaiaaGreatDoorTC
namespace Go.Proofs.YtobehholoenaiaaGreatDoor
open Go.Am
theorem bodyA_mono {P : Program} {fn : Func} {R R' : AEnd → List Ob → Prop} (h : ∀ e o, R e o → R' e o) (x : AX) (L : Am.Loc) (ob : List Ob) (k : bodyA P fn R x L ob) : bodyA P fn R' x L ob := by
  cases x with
  | normal => obtain ⟨avs, k1, k2⟩ := k; exact ⟨avs, k1, h _ _ k2⟩
  | ret => obtain ⟨avs, k1, k2⟩ := k; exact ⟨avs, k1, h _ _ k2⟩
  | panic av => exact h _ _ k
  | _ => exact k
theorem und_st {N : Nat} (h : 10 ≤ N) (t x : Tr) (w n : Int) {path : AV} (hp : path.und N = true) : (st t x w n path).all (Ob.und N) = true := by
  have b : ∀ i, i < 10 → Nat.blt i N = true := fun i hi => blt_of (by omega)
  simp [st, lp4, lpC, Ob.und, undVals, AV.und, und_cells, und_tv, hp, b]
theorem und_bx (N : Nat) (t : Tr) : (bx t).und N = true := by simp [Ob.und, und_cells]
theorem und_rp (N : Nat) (p : List Nat) : (rp p).und N = true := by simp [Ob.und, und_rowsI]
theorem und_finW (t x u : Tr) (w n : Int) (p : List Nat) : (finW t x u w n p).all (Ob.und (finW t x u w n p).length) = true := by
  unfold finW
  split
  · rw [show (stE t x w n p).length = 11 from rfl]
    unfold stE
    rw [List.all_append, und_st (by omega) t x w n (by simp [AV.und])]
    have e2 := und_rp 11 p
    simp only [List.all_cons, List.all_nil, e2]
    rfl
  · rw [show (stN t x u w n p).length = 13 from rfl]
    unfold stN
    rw [List.all_append, und_st (by omega) t x w n (by simp [AV.und])]
    have e1 := und_bx 13 u
    have e2 := und_rp 13 p
    have e3 : Ob.und 13 .dead = true := rfl
    simp only [List.all_cons, List.all_nil, e1, e2, e3]
    rfl
theorem low_all (sel : List Nat) (N : Nat) (h : (List.range 10).all (fun i => fsel sel N i == i) = true) : Low (fsel sel N) := by
  have k : ∀ i, i < 10 → fsel sel N i = i := fun i hi => by
    have := List.all_eq_true.1 h i (List.mem_range.2 hi)
    simpa using this
  exact ⟨k 0 (by omega), k 1 (by omega), k 2 (by omega), k 3 (by omega), k 4 (by omega), k 5 (by omega), k 6 (by omega), k 7 (by omega), k 8 (by omega), k 9 (by omega)⟩
abbrev z12 : List Nat := [0, 1, 2, 3, 4, 5, 6, 7, 8, 9, 10, 11]
abbrev z11 : List Nat := [0, 1, 2, 3, 4, 5, 6, 7, 8, 9, 10]
theorem ren_stB {f : Nat → Nat} (h : Low f) (h10 : f 10 = 10) (t x u : Tr) (w n : Int) (p : List Nat) : (stB t x u w n p).map (Ob.ren f) = stB t x u w n p := by
  have e1 := ren_bx f u
  have e2 := ren_rp f p
  simp only [stB, List.map_append, ren_st h, List.map_cons, List.map_nil, e1, e2, AV.ren, h10]
theorem ren_stA {f : Nat → Nat} (h : Low f) (t x u : Tr) (w n : Int) : (stA t x u w n).map (Ob.ren f) = stA t x u w n := by
  have e1 := ren_bx f u
  simp only [stA, List.map_append, ren_st h, List.map_cons, List.map_nil, e1, AV.ren]
theorem ren_stR {f : Nat → Nat} (h : Low f) (h11 : f 11 = 11) (t x u : Tr) (w n : Int) : (stR t x u w n).map (Ob.ren f) = stR t x u w n := by
  have e1 := ren_bx f u
  have e2 := ren_rp f []
  simp only [stR, List.map_append, ren_st h, List.map_cons, List.map_nil, e1, e2, AV.ren, h11]
theorem ren_stN {f : Nat → Nat} (h : Low f) (h12 : f 12 = 12) (t x u : Tr) (w n : Int) (p : List Nat) : (stN t x u w n p).map (Ob.ren f) = stN t x u w n p := by
  rw [map_stN h h12]; rfl
theorem cast1 (n : Nat) : ((n : Int) + 1) = ((n + 1 : Nat) : Int) := by omega
theorem head_n {t x u : Tr} {w : Int} {n : Nat} {p : List Nat} (ht : size t ≤ 300) (hx : size x ≤ 300) (h : atF t p = some u) (hn : n ≤ 100000) (h0 : p ≠ []) {rest : Code} {Q : APost}
    (k : awp none Tryz.prog 36 11 [] rest Q (lh 11) (stB t x u w (n + 1 : Nat) p)) : awp none Tryz.prog 36 11 [] (seqs hd27 rest) Q (argLoc 0 (aw u)) (stE t x w n p) := by
  have hr := round_n t x u p w n ht hx h hn
  have hp := path_size p t u h
  have hc := clone28_at p h0 (by omega) (ob := st t x w n (.sr 10 1 0 p.length) ++ [rp p, bx u]) (o := 10) rfl
  unfold lefts at hr
  split at hr
  · rename_i hw
    subst hw
    generalize putF t p x = c at hr
    obtain ⟨k2, r2, a2, tok2, ty2, op2, l2⟩ := u
    have hh := headnB k2 r2 a2 tok2 ty2 op2 l2 t x c n n (n + 1 : Nat) p
    unfold callHnB at hh
    exact awp_headD (L' := lh 11) (knownR_ok (fret_of rfl hc) (knownS_ok hr base_ok)) mixed hh (ac (dec_true.2 ⟨rfl, rfl⟩) (ac (dec_true.2 ⟨rfl, rfl⟩) rfl)) rfl rfl rfl
      (toldL_all (ren_stB (low_all _ _ rfl) rfl t x (uu k2 r2 a2 tok2 ty2 op2 l2) n (n + 1 : Nat) p)) k
  · obtain ⟨k2, r2, a2, tok2, ty2, op2, l2⟩ := u
    have hh := headnA k2 r2 a2 tok2 ty2 op2 l2 t x w n (n + 1 : Nat) p
    unfold callHnA at hh
    exact awp_headD (L' := lh 11) (knownR_ok (fret_of rfl hc) (knownS_ok hr base_ok)) mixed hh (ac (dec_true.2 ⟨rfl, rfl⟩) (ac (dec_true.2 ⟨rfl, rfl⟩) rfl)) rfl rfl rfl
      (toldL_all (ren_stB (low_all _ _ rfl) rfl t x (uu k2 r2 a2 tok2 ty2 op2 l2) w (n + 1 : Nat) p)) k
theorem head_r {t x : Tr} {w : Int} {n : Nat} (ht : size t ≤ 300) (hx : size x ≤ 300) (hn : n ≤ 100000) {rest : Code} {Q : APost}
    (k : awp none Tryz.prog 36 10 [] rest Q (lh 10) (stA t x t w (n + 1 : Nat))) : awp none Tryz.prog 36 10 [] (seqs hd27 rest) Q (argLoc 0 (aw t)) (st t x w n nilS) := by
  have hr := round_r t x w n ht hx hn
  have hc : ARet Tryz.prog 28 [nilS] [] [] (sI []) [] := clone28_nil []
  have hk : ∀ args, args = [nilS] → ARet Tryz.prog 28 args [] [] (sI []) [] ∧ pureVals args = true ∧ (sI []).pure = true := fun args e => by subst e; exact ⟨hc, rfl, rfl⟩
  unfold lefts at hr
  split at hr
  · rename_i hw
    subst hw
    generalize putF t [] x = c at hr
    obtain ⟨k2, r2, a2, tok2, ty2, op2, l2⟩ := t
    have hh := headrB k2 r2 a2 tok2 ty2 op2 l2 (uu k2 r2 a2 tok2 ty2 op2 l2) x c n n (n + 1 : Nat)
    unfold callHrB at hh
    exact awp_headD (L' := lh 10) (known1_ok hk (knownS_ok hr base_ok)) mixed hh (ac (dec_true.2 ⟨rfl, rfl⟩) (ac rfl (ac (dec_true.2 rfl) (ac rfl rfl)))) rfl rfl rfl
      (toldL_all (ren_stA (low_all _ _ rfl) (uu k2 r2 a2 tok2 ty2 op2 l2) x (uu k2 r2 a2 tok2 ty2 op2 l2) n (n + 1 : Nat))) k
  · obtain ⟨k2, r2, a2, tok2, ty2, op2, l2⟩ := t
    have hh := headrA k2 r2 a2 tok2 ty2 op2 l2 (uu k2 r2 a2 tok2 ty2 op2 l2) x w n (n + 1 : Nat)
    unfold callHrA at hh
    exact awp_headD (L' := lh 10) (known1_ok hk (knownS_ok hr base_ok)) mixed hh (ac (dec_true.2 ⟨rfl, rfl⟩) (ac rfl (ac (dec_true.2 rfl) (ac rfl rfl)))) rfl rfl rfl
      (toldL_all (ren_stA (low_all _ _ rfl) (uu k2 r2 a2 tok2 ty2 op2 l2) x (uu k2 r2 a2 tok2 ty2 op2 l2) w (n + 1 : Nat))) k
theorem atF_snoc : ∀ (p : List Nat) (t u v : Tr) (i : Nat), atF t p = some u → u.kids[i]? = some v → atF t (p ++ [i]) = some v
  | [], t, u, v, i, h, hv => by
    simp only [atF, Option.some.injEq] at h; subst h
    simp [atF, hv]
  | j :: p, t, u, v, i, h, hv => by
    simp only [List.cons_append, atF] at h ⊢
    cases hk : t.kids[j]? with
    | none => rw [hk] at h; cases h
    | some k => rw [hk] at h; exact atF_snoc p k u v i h hv
theorem endB {t x u : Tr} {w n : Int} {p : List Nat} {l : List Tr} {i : Nat} (hi : l.length ≤ i) : ∃ Lx Bx, Piece Tryz.prog 36 11 c27 (lw l i) (stB t x u w n p) (.exit 0) Lx Bx ∧ awp none Tryz.prog 36 11 [] tl27 (bodyA Tryz.prog Tryz.f27 fun e o => e = .ret (B true) ∧ ∃ xs, o = stE t x w n p ++ xs) Lx Bx :=
  ⟨[(1, .pt 7 0), (2, .pt 8 0), (3, .pt 9 0)], _, pieceL base_ok mixed (exitB t x u w n p l i) (ac (nlt hi) rfl) rfl rfl rfl rfl (toldL_all (ren_stB (low_all _ _ rfl) rfl t x u w n p)),
    awp_mono (awp_tailD (obs := stB t x u w n p) (fn := Tryz.f27) base_ok mixed (lastB t x u w n p) rfl rfl) (bodyA_mono fun e o h => ⟨h.1, by obtain ⟨xs, rfl⟩ := h.2; exact ⟨bx u :: xs, by simp [stB, stE]⟩⟩)⟩
theorem endN {t x u : Tr} {w n : Int} {p : List Nat} {l : List Tr} {i : Nat} (hi : l.length ≤ i) : ∃ Lx Bx, Piece Tryz.prog 36 11 c27 (lw l i) (stN t x u w n p) (.exit 0) Lx Bx ∧ awp none Tryz.prog 36 11 [] tl27 (bodyA Tryz.prog Tryz.f27 fun e o => e = .ret (B true) ∧ ∃ xs, o = stN t x u w n p ++ xs) Lx Bx :=
  ⟨[(1, .pt 7 0), (2, .pt 8 0), (3, .pt 9 0)], _, pieceL base_ok mixed (exitN t x u w n p l i) (ac (nlt hi) rfl) rfl rfl rfl rfl (toldL_all (ren_stN (low_all _ _ rfl) rfl t x u w n p)),
    awp_tailD (obs := stN t x u w n p) (fn := Tryz.f27) base_ok mixed (lastN t x u w n p) rfl rfl⟩
theorem endA {t x u : Tr} {w n : Int} {l : List Tr} {i : Nat} (hi : l.length ≤ i) : ∃ Lx Bx, Piece Tryz.prog 36 10 c27 (lw l i) (stA t x u w n) (.exit 0) Lx Bx ∧ awp none Tryz.prog 36 10 [] tl27 (bodyA Tryz.prog Tryz.f27 fun e o => e = .ret (B true) ∧ ∃ xs, o = st t x w n nilS ++ xs) Lx Bx :=
  ⟨[(1, .pt 7 0), (2, .pt 8 0), (3, .pt 9 0)], _, pieceL base_ok mixed (exitA t x u w n l i) (ac (nlt hi) rfl) rfl rfl rfl rfl (toldL_all (ren_stA (low_all _ _ rfl) t x u w n)),
    awp_mono (awp_tailD (obs := stA t x u w n) (fn := Tryz.f27) base_ok mixed (lastA t x u w n) rfl rfl) (bodyA_mono fun e o h => ⟨h.1, by obtain ⟨xs, rfl⟩ := h.2; exact ⟨bx u :: xs, by simp [stA]⟩⟩)⟩
theorem endR {t x u : Tr} {w n : Int} {l : List Tr} {i : Nat} (hi : l.length ≤ i) : ∃ Lx Bx, Piece Tryz.prog 36 10 c27 (lw l i) (stR t x u w n) (.exit 0) Lx Bx ∧ awp none Tryz.prog 36 10 [] tl27 (bodyA Tryz.prog Tryz.f27 fun e o => e = .ret (B true) ∧ ∃ xs, o = stR t x u w n ++ xs) Lx Bx :=
  ⟨[(1, .pt 7 0), (2, .pt 8 0), (3, .pt 9 0)], _, pieceL base_ok mixed (exitR t x u w n l i) (ac (nlt hi) rfl) rfl rfl rfl rfl (toldL_all (ren_stR (low_all _ _ rfl) rfl t x u w n)),
    awp_tailD (obs := stR t x u w n) (fn := Tryz.f27) base_ok mixed (lastR t x u w n) rfl rfl⟩
/-- the store at the loop's head when i kids are done -/
noncomputable def hdN (t x u : Tr) (w : Int) (n : Nat) (p : List Nat) (l : List Tr) : Nat → List Ob
  | 0 => stB t x u w (n + 1 : Nat) p
  | i + 1 => stN t x u w (n + 1 + sizes (l.take (i + 1)) : Nat) p
noncomputable def hdR (t x u : Tr) (w : Int) (n : Nat) (l : List Tr) : Nat → List Ob
  | 0 => stA t x u w (n + 1 : Nat)
  | i + 1 => stR t x u w (n + 1 + sizes (l.take (i + 1)) : Nat)
theorem walkN {t x : Tr} (w : Int) (ht : size t ≤ 300) (hx : size x ≤ 300) : ∀ u (p : List Nat) (n : Nat), p ≠ [] → atF t p = some u → n + size u ≤ 1000 → ARet Tryz.prog 27 (aw u) (stE t x w n p) [] (B true) (finW t x u w (n + size u : Nat) p) := Tr.ind fun k r a tok ty op l ih p n h0 hat hn => by
  have hsz := path_size p t _ hat
  have hll := length_sizes l
  simp only [size] at hsz hn
  refine aret_of_awp f27 n27 bd27 (Nat.le_of_ble_eq_true rfl) (by unfold finW; split <;> exact Nat.le_of_ble_eq_true rfl) rfl (und_finW ..) ?_
  refine head_n ht hx hat (by omega) h0 ?_
  refine awp_loopE (lw l) (hdN t x (.mk k r a tok ty op l) w n p l) (fun i => i ≤ l.length) (fun i => l.length - i) 0 (Nat.zero_le _)
    (pieceL base_ok mixed (kids_n k r a tok ty op l t x w (n + 1 : Nat) p) rfl rfl rfl rfl (by rw [ren_lw _ (low_all _ _ rfl), rowsT_len]; rfl) (toldL_all (ren_stB (low_all _ _ rfl) rfl ..))) ?_
  intro i hi
  by_cases hil : i < l.length
  · left
    obtain ⟨v, hv⟩ : ∃ v, l[i]? = some v := ⟨_, List.getElem?_eq_getElem hil⟩
    have hat2 := atF_snoc p t _ v i hat hv
    have hsv := size_kid hv
    have hst := sizes_take l i v hv
    have hle : sizes (l.take (i + 1)) ≤ sizes l := by
      have : ∀ (l : List Tr) (k : Nat), sizes (l.take k) ≤ sizes l := by
        intro l
        induction l with
        | nil => intro k; simp [sizes]
        | cons a l ih => intro k; cases k with
          | zero => simp [sizes]
          | succ k => have := ih k; simp only [List.take_succ_cons, sizes]; omega
      exact this l (i + 1)
    have W := ih v (List.mem_of_getElem? hv) (p ++ [i]) (n + 1 + sizes (l.take i)) (by simp) hat2 (by omega)
    refine ⟨i + 1, hil, by omega, ?_⟩
    rw [show n + 1 + sizes (l.take i) + size v = n + 1 + sizes (l.take (i + 1)) from by omega] at W
    unfold finW at W
    cases i with
    | zero =>
      rw [List.take_zero, show sizes [] = 0 from rfl, Nat.add_zero] at W
      split at W
      · exact pieceBl (by omega) (by omega) hv W
      · exact pieceBk (by omega) (by omega) hv W
    | succ i =>
      split at W
      · exact pieceNl (by omega) (by omega) hv W
      · exact pieceNk (by omega) (by omega) hv W
  · right
    have hi' : i = l.length := by omega
    subst hi'
    cases l with
    | nil => exact endB (Nat.le_refl _)
    | cons v l =>
      have e : n + 1 + sizes ((v :: l).take (l.length + 1)) = n + size (.mk k r a tok ty op (v :: l)) := by
        rw [List.take_of_length_le (by simp)]; simp only [size]; omega
      have := endN (t := t) (x := x) (u := .mk k r a tok ty op (v :: l)) (w := w) (n := (n + 1 + sizes ((v :: l).take (l.length + 1)) : Nat)) (p := p) (l := v :: l) (i := (v :: l).length) (Nat.le_refl _)
      rw [e] at this
      unfold hdN finW
      simp only [List.length_cons, Tr.kids]
      rw [e]
      exact this
noncomputable def finR (t x : Tr) (w : Int) : List Tr → List Ob
  | [] => st t x w (size t) nilS
  | _ :: _ => stR t x t w (size t)
theorem walkR {t x : Tr} (w : Int) (ht : size t ≤ 300) (hx : size x ≤ 300) : ARet Tryz.prog 27 (aw t) (st t x w 0 nilS) [] (B true) (finR t x w t.kids) := by
  obtain ⟨k, r, a, tok, ty, op, l⟩ := t
  have hll := length_sizes l
  have hsz := ht
  simp only [size] at hsz
  generalize htt : Tr.mk k r a tok ty op l = t at *
  have hkids : t.kids = l := by subst htt; rfl
  have hsize : size t = sizes l + 1 := by subst htt; rfl
  rw [hkids]
  refine aret_of_awp f27 n27 bd27 (Nat.le_of_ble_eq_true rfl) (by unfold finR; split <;> exact Nat.le_of_ble_eq_true rfl) rfl ?_ ?_
  · unfold finR
    split
    · rw [show (st t x w (size t) nilS).length = 10 from rfl]
      exact und_st (by omega) t x w _ rfl
    · rw [show (stR t x t w (size t)).length = 12 from rfl]
      unfold stR
      rw [List.all_append, und_st (by omega) t x w _ (by simp [AV.und])]
      have e1 := und_bx 12 t
      have e2 := und_rp 12 []
      simp only [List.all_cons, List.all_nil, e1, e2]
      rfl
  refine head_r (n := 0) ht hx (by omega) ?_
  refine awp_loopE (lw l) (hdR t x t w 0 l) (fun i => i ≤ l.length) (fun i => l.length - i) 0 (Nat.zero_le _)
    (by
      subst htt
      exact pieceL base_ok mixed (kids_r k r a tok ty op l _ x w (0 + 1 : Nat)) rfl rfl rfl rfl (by rw [ren_lw _ (low_all _ _ rfl), rowsT_len]; rfl) (toldL_all (ren_stA (low_all _ _ rfl) ..))) ?_
  intro i hi
  by_cases hil : i < l.length
  · left
    obtain ⟨v, hv⟩ : ∃ v, l[i]? = some v := ⟨_, List.getElem?_eq_getElem hil⟩
    have hat2 : atF t [i] = some v := atF_snoc [] t t v i rfl (by rw [hkids]; exact hv)
    have hsv := size_kid hv
    have hst := sizes_take l i v hv
    have hle : sizes (l.take (i + 1)) ≤ sizes l := by
      have : ∀ (l : List Tr) (k : Nat), sizes (l.take k) ≤ sizes l := by
        intro l
        induction l with
        | nil => intro k; simp [sizes]
        | cons a l ih => intro k; cases k with
          | zero => simp [sizes]
          | succ k => have := ih k; simp only [List.take_succ_cons, sizes]; omega
      exact this l (i + 1)
    have W := walkN w ht hx v [i] (0 + 1 + sizes (l.take i)) (by simp) hat2 (by omega)
    refine ⟨i + 1, hil, by omega, ?_⟩
    rw [show 0 + 1 + sizes (l.take i) + size v = 0 + 1 + sizes (l.take (i + 1)) from by omega] at W
    unfold finW at W
    cases i with
    | zero =>
      rw [List.take_zero, show sizes [] = 0 from rfl, Nat.add_zero] at W
      split at W
      · exact pieceAl (by omega) hv W
      · exact pieceAk (by omega) hv W
    | succ i =>
      split at W
      · exact pieceRl (by omega) hv W
      · exact pieceRk (by omega) hv W
  · right
    have hi' : i = l.length := by omega
    subst hi'
    cases l with
    | nil =>
      have e : ((size t : Nat) : Int) = ((0 + 1 : Nat) : Int) := by rw [hsize]; rfl
      unfold finR
      rw [e]
      have := endA (t := t) (x := x) (u := t) (w := w) (n := (0 + 1 : Nat)) (l := []) (i := 0) (Nat.le_refl _)
      simpa [hdR] using this
    | cons v l =>
      have e : 0 + 1 + sizes ((v :: l).take (l.length + 1)) = size t := by
        rw [List.take_of_length_le (by simp), hsize]; omega
      have := endR (t := t) (x := x) (u := t) (w := w) (n := (size t : Nat)) (l := v :: l) (i := (v :: l).length) (Nat.le_refl _)
      unfold hdR
      simp only [List.length_cons] at this ⊢
      rw [e]
      exact this
end Go.Proofs.YtobehholoenaiaaGreatDoor
