/- The walk over a tree, by induction: what it comes to. -/
import Derived.Test.YtobehholoenaiaaGreatDoorTB
namespace Go.Proofs.YtobehholoenaiaaGreatDoor
open Go.Am
noncomputable def stE (t x : Tr) (w n : Int) (p : List Nat) : List Ob := st t x w n (.sr 10 1 0 p.length) ++ [rp p]
noncomputable def stB (t x u : Tr) (w n : Int) (p : List Nat) : List Ob := st t x w n (.sr 10 1 0 p.length) ++ [rp p, bx u]
noncomputable def stN (t x u : Tr) (w n : Int) (p : List Nat) : List Ob := st t x w n (.sr 12 1 0 p.length) ++ [.dead, bx u, rp p]
noncomputable def stA (t x u : Tr) (w n : Int) : List Ob := st t x w n nilS ++ [bx u]
noncomputable def stR (t x u : Tr) (w n : Int) : List Ob := st t x w n (.sr 11 1 0 0) ++ [bx u, rp []]
noncomputable def finW (t x u : Tr) (w n : Int) (p : List Nat) : List Ob := match u.kids with
  | [] => stE t x w n p
  | _ :: _ => stN t x u w n p
theorem map_stE {f : Nat → Nat} {o : Nat} (h : Low f) (h10 : f 10 = o) (t x : Tr) (w n : Int) (q : List Nat) : (stE t x w n q).map (Ob.ren f) = st t x w n (.sr o 1 0 q.length) ++ [rp q] := by
  simp only [stE, List.map_append, ren_st h, List.map_cons, List.map_nil, ren_rp, AV.ren, h10]
theorem map_stN {f : Nat → Nat} {o : Nat} (h : Low f) (h12 : f 12 = o) (t x u : Tr) (w n : Int) (q : List Nat) : (stN t x u w n q).map (Ob.ren f) = st t x w n (.sr o 1 0 q.length) ++ [.dead, bx u, rp q] := by
  have e1 := ren_bx f u
  have e2 := ren_rp f q
  have e3 : Ob.ren f .dead = .dead := rfl
  simp only [stN, List.map_append, ren_st h, List.map_cons, List.map_nil, e1, e2, e3, AV.ren, h12]
theorem liftl3 {t x v : Tr} {w n n' : Int} {q : List Nat} (a b c : Ob) (W : ARet Tryz.prog 27 (aw v) (stE t x w n q) [] (B true) (stE t x w n' q)) :
    ARet Tryz.prog 27 (aw v) (st t x w n (.sr 13 1 0 q.length) ++ [a, b, c, rp q]) [] (B true) (st t x w n' (.sr 13 1 0 q.length) ++ [a, b, c, rp q]) := by
  have h := walk_lift W (o := 13) (tail := [a, b, c, rp q]) rfl rfl (by omega) (by simp [stE, stN, st])
  rw [back_eq, map_stE (o := 13) ⟨rfl, rfl, rfl, rfl, rfl, rfl, rfl, rfl, rfl, rfl⟩ rfl] at h
  exact h
theorem liftk3 {t x v : Tr} {w n n' : Int} {q : List Nat} (a b c : Ob) (W : ARet Tryz.prog 27 (aw v) (stE t x w n q) [] (B true) (stN t x v w n' q)) :
    ARet Tryz.prog 27 (aw v) (st t x w n (.sr 13 1 0 q.length) ++ [a, b, c, rp q]) [] (B true) (st t x w n' (.sr 15 1 0 q.length) ++ [a, b, c, .dead, bx v, rp q]) := by
  have h := walk_lift W (o := 13) (tail := [a, b, c, rp q]) rfl rfl (by omega) (by simp [stE, stN, st])
  rw [back_eq, map_stN (o := 15) ⟨rfl, rfl, rfl, rfl, rfl, rfl, rfl, rfl, rfl, rfl⟩ rfl] at h
  exact h
theorem liftl4 {t x v : Tr} {w n n' : Int} {q : List Nat} (a b c d : Ob) (W : ARet Tryz.prog 27 (aw v) (stE t x w n q) [] (B true) (stE t x w n' q)) :
    ARet Tryz.prog 27 (aw v) (st t x w n (.sr 14 1 0 q.length) ++ [a, b, c, d, rp q]) [] (B true) (st t x w n' (.sr 14 1 0 q.length) ++ [a, b, c, d, rp q]) := by
  have h := walk_lift W (o := 14) (tail := [a, b, c, d, rp q]) rfl rfl (by omega) (by simp [stE, stN, st])
  rw [back_eq, map_stE (o := 14) ⟨rfl, rfl, rfl, rfl, rfl, rfl, rfl, rfl, rfl, rfl⟩ rfl] at h
  exact h
theorem liftk4 {t x v : Tr} {w n n' : Int} {q : List Nat} (a b c d : Ob) (W : ARet Tryz.prog 27 (aw v) (stE t x w n q) [] (B true) (stN t x v w n' q)) :
    ARet Tryz.prog 27 (aw v) (st t x w n (.sr 14 1 0 q.length) ++ [a, b, c, d, rp q]) [] (B true) (st t x w n' (.sr 16 1 0 q.length) ++ [a, b, c, d, .dead, bx v, rp q]) := by
  have h := walk_lift W (o := 14) (tail := [a, b, c, d, rp q]) rfl rfl (by omega) (by simp [stE, stN, st])
  rw [back_eq, map_stN (o := 16) ⟨rfl, rfl, rfl, rfl, rfl, rfl, rfl, rfl, rfl, rfl⟩ rfl] at h
  exact h
theorem liftl5 {t x v : Tr} {w n n' : Int} {q : List Nat} (a b c d e : Ob) (W : ARet Tryz.prog 27 (aw v) (stE t x w n q) [] (B true) (stE t x w n' q)) :
    ARet Tryz.prog 27 (aw v) (st t x w n (.sr 15 1 0 q.length) ++ [a, b, c, d, e, rp q]) [] (B true) (st t x w n' (.sr 15 1 0 q.length) ++ [a, b, c, d, e, rp q]) := by
  have h := walk_lift W (o := 15) (tail := [a, b, c, d, e, rp q]) rfl rfl (by omega) (by simp [stE, stN, st])
  rw [back_eq, map_stE (o := 15) ⟨rfl, rfl, rfl, rfl, rfl, rfl, rfl, rfl, rfl, rfl⟩ rfl] at h
  exact h
theorem liftk5 {t x v : Tr} {w n n' : Int} {q : List Nat} (a b c d e : Ob) (W : ARet Tryz.prog 27 (aw v) (stE t x w n q) [] (B true) (stN t x v w n' q)) :
    ARet Tryz.prog 27 (aw v) (st t x w n (.sr 15 1 0 q.length) ++ [a, b, c, d, e, rp q]) [] (B true) (st t x w n' (.sr 17 1 0 q.length) ++ [a, b, c, d, e, .dead, bx v, rp q]) := by
  have h := walk_lift W (o := 15) (tail := [a, b, c, d, e, rp q]) rfl rfl (by omega) (by simp [stE, stN, st])
  rw [back_eq, map_stN (o := 17) ⟨rfl, rfl, rfl, rfl, rfl, rfl, rfl, rfl, rfl, rfl⟩ rfl] at h
  exact h
theorem rowsI_snoc (p : List Nat) (i : Nat) : rowsI (p ++ [i]) = rowsI p ++ [[I i]] := by simp [rowsI]
theorem told_cut (p : List Nat) (i : Nat) : Am.Told (rp (p ++ [i])) (rp p) := by
  have := Am.Told.row (T := 3) (S := 1) (k := p.length) (rows := rowsI (p ++ [i])) (by rw [rowsI_len, List.length_append]; omega)
  rwa [rowsI_snoc, List.take_append_of_le_length (by rw [rowsI_len]; exact Nat.le_refl _), List.take_of_length_le (by rw [rowsI_len]; exact Nat.le_refl _), ← rowsI_snoc] at this
theorem take_all (p : List Nat) : List.take p.length (rowsI p) = rowsI p := List.take_of_length_le (by rw [rowsI_len]; exact Nat.le_refl _)
theorem d_dec (k : Nat) (h : k ≤ 100000) : dec (IntKind.i64.wrap (((k + 1 : Nat) : Int) - 1) = ((k : Nat) : Int)) = true := dec_true.2 (by rw [wrap64 (by omega) (by omega)]; omega)
theorem d_cut (k : Nat) : (Nat.ble 0 k && Nat.ble k (k + 1) && true) = true := andt (andt (nle (Nat.zero_le _)) (nle (Nat.le_succ _))) rfl
theorem d_app (p : List Nat) (h : p.length ≤ 100000) : ((true && true && true && Nat.ble p.length (rowsI p).length && true) && (true && true && true && Nat.ble ((p.length + 1) * 8) 140737488355328 && Nat.ble (p.length + 1) 9223372036854775807 && true)) = true :=
  andt (andt (andt rfl (nle (by rw [rowsI_len]; exact Nat.le_refl _))) rfl) (andt (andt (andt rfl (nle (by omega))) (nle (by omega))) rfl)
theorem ren_lw (f : Nat → Nat) (h : Low f) (l : List Tr) (i : Nat) : renL f (lw l i) = lwS l l.length i := by
  obtain ⟨-, -, -, -, -, -, -, h7, h8, h9⟩ := h
  simp [renL, lw, lwS, AV.ren, renRows_pure _ _ (pure_rowsT l), h7, h8, h9]
theorem pieceBl {t x y v : Tr} {w n n' : Int} {p : List Nat} {l : List Tr} {i : Nat} (hp : p.length ≤ 100000) (hl : l.length ≤ 100000) (hv : l[i]? = some v) (W : ARet Tryz.prog 27 (aw v) (stE t x w n (p ++ [i])) [] (B true) (stE t x w n' (p ++ [i]))) :
    Piece Tryz.prog 36 11 c27 (lw l i) (stB t x y w n p) .normal (lw l (i + 1)) (stN t x y w n' p) := by
  have hil : i < l.length := (List.getElem?_eq_some_iff.1 hv).1
  have hW := liftl4 .dead (bx y) (bx v) (ro i) W
  rw [List.length_append] at hW
  obtain ⟨k2, r2, a2, tok2, ty2, op2, l2⟩ := v
  refine pieceL (knownS_ok (fret_of rfl hW) base_ok) mixed (stepBl k2 r2 a2 tok2 ty2 op2 l2 t x y w n n' p l i) ?_ rfl rfl rfl (ren_lw _ ⟨rfl, rfl, rfl, rfl, rfl, rfl, rfl, rfl, rfl, rfl⟩ l (i + 1)) ?_
  · exact ac (dinc hil (by omega)) (ac (d_cut _) (ac (d_dec _ hp) (ac (dec_true.2 ⟨rfl, by rw [take_all, ← rowsI_snoc]⟩) (ac (d_app p hp) (ac (d_row hv) (ac (ylt hil) rfl))))))
  · rw [List.map_append]
    exact toldL_app (Z := [.dead, bx y, rp (p ++ [i])].map some) (Z' := [.dead, bx y, rp p]) ⟨.same _, by rw [ren_bx]; exact .same _, by rw [ren_rp]; exact told_cut p i, trivial⟩ (ren_st ⟨rfl, rfl, rfl, rfl, rfl, rfl, rfl, rfl, rfl, rfl⟩ _ _ _ _ _)
theorem pieceBk {t x y v : Tr} {w n n' : Int} {p : List Nat} {l : List Tr} {i : Nat} (hp : p.length ≤ 100000) (hl : l.length ≤ 100000) (hv : l[i]? = some v) (W : ARet Tryz.prog 27 (aw v) (stE t x w n (p ++ [i])) [] (B true) (stN t x v w n' (p ++ [i]))) :
    Piece Tryz.prog 36 11 c27 (lw l i) (stB t x y w n p) .normal (lw l (i + 1)) (stN t x y w n' p) := by
  have hil : i < l.length := (List.getElem?_eq_some_iff.1 hv).1
  have hW := liftk4 .dead (bx y) (bx v) (ro i) W
  rw [List.length_append] at hW
  obtain ⟨k2, r2, a2, tok2, ty2, op2, l2⟩ := v
  refine pieceL (knownS_ok (fret_of rfl hW) base_ok) mixed (stepBk k2 r2 a2 tok2 ty2 op2 l2 t x y w n n' p l i) ?_ rfl rfl rfl (ren_lw _ ⟨rfl, rfl, rfl, rfl, rfl, rfl, rfl, rfl, rfl, rfl⟩ l (i + 1)) ?_
  · exact ac (dinc hil (by omega)) (ac (d_cut _) (ac (d_dec _ hp) (ac (dec_true.2 ⟨rfl, by rw [take_all, ← rowsI_snoc]⟩) (ac (d_app p hp) (ac (d_row hv) (ac (ylt hil) rfl))))))
  · rw [List.map_append]
    exact toldL_app (Z := [.dead, bx y, rp (p ++ [i])].map some) (Z' := [.dead, bx y, rp p]) ⟨.same _, by rw [ren_bx]; exact .same _, by rw [ren_rp]; exact told_cut p i, trivial⟩ (ren_st ⟨rfl, rfl, rfl, rfl, rfl, rfl, rfl, rfl, rfl, rfl⟩ _ _ _ _ _)
theorem pieceNl {t x y v : Tr} {w n n' : Int} {p : List Nat} {l : List Tr} {i : Nat} (hp : p.length ≤ 100000) (hl : l.length ≤ 100000) (hv : l[i]? = some v) (W : ARet Tryz.prog 27 (aw v) (stE t x w n (p ++ [i])) [] (B true) (stE t x w n' (p ++ [i]))) :
    Piece Tryz.prog 36 11 c27 (lw l i) (stN t x y w n p) .normal (lw l (i + 1)) (stN t x y w n' p) := by
  have hil : i < l.length := (List.getElem?_eq_some_iff.1 hv).1
  have hW := liftl5 .dead (bx y) .dead (bx v) (ro i) W
  rw [List.length_append] at hW
  obtain ⟨k2, r2, a2, tok2, ty2, op2, l2⟩ := v
  refine pieceL (knownS_ok (fret_of rfl hW) base_ok) mixed (stepNl k2 r2 a2 tok2 ty2 op2 l2 t x y w n n' p l i) ?_ rfl rfl rfl (ren_lw _ ⟨rfl, rfl, rfl, rfl, rfl, rfl, rfl, rfl, rfl, rfl⟩ l (i + 1)) ?_
  · exact ac (dinc hil (by omega)) (ac (d_cut _) (ac (d_dec _ hp) (ac (dec_true.2 ⟨rfl, by rw [take_all, ← rowsI_snoc]⟩) (ac (d_app p hp) (ac (d_row hv) (ac (ylt hil) rfl))))))
  · rw [List.map_append]
    exact toldL_app (Z := [.dead, bx y, rp (p ++ [i])].map some) (Z' := [.dead, bx y, rp p]) ⟨.same _, by rw [ren_bx]; exact .same _, by rw [ren_rp]; exact told_cut p i, trivial⟩ (ren_st ⟨rfl, rfl, rfl, rfl, rfl, rfl, rfl, rfl, rfl, rfl⟩ _ _ _ _ _)
theorem pieceNk {t x y v : Tr} {w n n' : Int} {p : List Nat} {l : List Tr} {i : Nat} (hp : p.length ≤ 100000) (hl : l.length ≤ 100000) (hv : l[i]? = some v) (W : ARet Tryz.prog 27 (aw v) (stE t x w n (p ++ [i])) [] (B true) (stN t x v w n' (p ++ [i]))) :
    Piece Tryz.prog 36 11 c27 (lw l i) (stN t x y w n p) .normal (lw l (i + 1)) (stN t x y w n' p) := by
  have hil : i < l.length := (List.getElem?_eq_some_iff.1 hv).1
  have hW := liftk5 .dead (bx y) .dead (bx v) (ro i) W
  rw [List.length_append] at hW
  obtain ⟨k2, r2, a2, tok2, ty2, op2, l2⟩ := v
  refine pieceL (knownS_ok (fret_of rfl hW) base_ok) mixed (stepNk k2 r2 a2 tok2 ty2 op2 l2 t x y w n n' p l i) ?_ rfl rfl rfl (ren_lw _ ⟨rfl, rfl, rfl, rfl, rfl, rfl, rfl, rfl, rfl, rfl⟩ l (i + 1)) ?_
  · exact ac (dinc hil (by omega)) (ac (d_cut _) (ac (d_dec _ hp) (ac (dec_true.2 ⟨rfl, by rw [take_all, ← rowsI_snoc]⟩) (ac (d_app p hp) (ac (d_row hv) (ac (ylt hil) rfl))))))
  · rw [List.map_append]
    exact toldL_app (Z := [.dead, bx y, rp (p ++ [i])].map some) (Z' := [.dead, bx y, rp p]) ⟨.same _, by rw [ren_bx]; exact .same _, by rw [ren_rp]; exact told_cut p i, trivial⟩ (ren_st ⟨rfl, rfl, rfl, rfl, rfl, rfl, rfl, rfl, rfl, rfl⟩ _ _ _ _ _)
theorem pieceAl {t x y v : Tr} {w n n' : Int} {l : List Tr} {i : Nat} (hl : l.length ≤ 100000) (hv : l[i]? = some v) (W : ARet Tryz.prog 27 (aw v) (stE t x w n [i]) [] (B true) (stE t x w n' [i])) :
    Piece Tryz.prog 36 10 c27 (lw l i) (stA t x y w n) .normal (lw l (i + 1)) (stR t x y w n') := by
  have hil : i < l.length := (List.getElem?_eq_some_iff.1 hv).1
  have hW := liftl3 (bx y) (bx v) (ro i) W
  obtain ⟨k2, r2, a2, tok2, ty2, op2, l2⟩ := v
  refine pieceL (knownS_ok (fret_of rfl hW) base_ok) mixed (stepAl k2 r2 a2 tok2 ty2 op2 l2 t x y w n n' l i) ?_ rfl rfl rfl (ren_lw _ ⟨rfl, rfl, rfl, rfl, rfl, rfl, rfl, rfl, rfl, rfl⟩ l (i + 1)) ?_
  · exact ac (dinc hil (by omega)) (ac (d_cut 0) (ac (d_dec 0 (Nat.zero_le _)) (ac (dec_true.2 ⟨rfl, rfl⟩) (ac (rfl) (ac (d_row hv) (ac (ylt hil) rfl))))))
  · rw [List.map_append]
    exact toldL_app (Z := [bx y, rp [i]].map some) (Z' := [bx y, rp []]) ⟨by rw [ren_bx]; exact .same _, by rw [ren_rp]; exact told_cut [] i, trivial⟩ (ren_st ⟨rfl, rfl, rfl, rfl, rfl, rfl, rfl, rfl, rfl, rfl⟩ _ _ _ _ _)
theorem pieceAk {t x y v : Tr} {w n n' : Int} {l : List Tr} {i : Nat} (hl : l.length ≤ 100000) (hv : l[i]? = some v) (W : ARet Tryz.prog 27 (aw v) (stE t x w n [i]) [] (B true) (stN t x v w n' [i])) :
    Piece Tryz.prog 36 10 c27 (lw l i) (stA t x y w n) .normal (lw l (i + 1)) (stR t x y w n') := by
  have hil : i < l.length := (List.getElem?_eq_some_iff.1 hv).1
  have hW := liftk3 (bx y) (bx v) (ro i) W
  obtain ⟨k2, r2, a2, tok2, ty2, op2, l2⟩ := v
  refine pieceL (knownS_ok (fret_of rfl hW) base_ok) mixed (stepAk k2 r2 a2 tok2 ty2 op2 l2 t x y w n n' l i) ?_ rfl rfl rfl (ren_lw _ ⟨rfl, rfl, rfl, rfl, rfl, rfl, rfl, rfl, rfl, rfl⟩ l (i + 1)) ?_
  · exact ac (dinc hil (by omega)) (ac (d_cut 0) (ac (d_dec 0 (Nat.zero_le _)) (ac (dec_true.2 ⟨rfl, rfl⟩) (ac (rfl) (ac (d_row hv) (ac (ylt hil) rfl))))))
  · rw [List.map_append]
    exact toldL_app (Z := [bx y, rp [i]].map some) (Z' := [bx y, rp []]) ⟨by rw [ren_bx]; exact .same _, by rw [ren_rp]; exact told_cut [] i, trivial⟩ (ren_st ⟨rfl, rfl, rfl, rfl, rfl, rfl, rfl, rfl, rfl, rfl⟩ _ _ _ _ _)
theorem pieceRl {t x y v : Tr} {w n n' : Int} {l : List Tr} {i : Nat} (hl : l.length ≤ 100000) (hv : l[i]? = some v) (W : ARet Tryz.prog 27 (aw v) (stE t x w n [i]) [] (B true) (stE t x w n' [i])) :
    Piece Tryz.prog 36 10 c27 (lw l i) (stR t x y w n) .normal (lw l (i + 1)) (stR t x y w n') := by
  have hil : i < l.length := (List.getElem?_eq_some_iff.1 hv).1
  have hW := liftl4 (bx y) .dead (bx v) (ro i) W
  obtain ⟨k2, r2, a2, tok2, ty2, op2, l2⟩ := v
  refine pieceL (knownS_ok (fret_of rfl hW) base_ok) mixed (stepRl k2 r2 a2 tok2 ty2 op2 l2 t x y w n n' l i) ?_ rfl rfl rfl (ren_lw _ ⟨rfl, rfl, rfl, rfl, rfl, rfl, rfl, rfl, rfl, rfl⟩ l (i + 1)) ?_
  · exact ac (dinc hil (by omega)) (ac (d_cut 0) (ac (d_dec 0 (Nat.zero_le _)) (ac (dec_true.2 ⟨rfl, rfl⟩) (ac (d_app [] (Nat.zero_le _)) (ac (d_row hv) (ac (ylt hil) rfl))))))
  · rw [List.map_append]
    exact toldL_app (Z := [bx y, rp [i]].map some) (Z' := [bx y, rp []]) ⟨by rw [ren_bx]; exact .same _, by rw [ren_rp]; exact told_cut [] i, trivial⟩ (ren_st ⟨rfl, rfl, rfl, rfl, rfl, rfl, rfl, rfl, rfl, rfl⟩ _ _ _ _ _)
theorem pieceRk {t x y v : Tr} {w n n' : Int} {l : List Tr} {i : Nat} (hl : l.length ≤ 100000) (hv : l[i]? = some v) (W : ARet Tryz.prog 27 (aw v) (stE t x w n [i]) [] (B true) (stN t x v w n' [i])) :
    Piece Tryz.prog 36 10 c27 (lw l i) (stR t x y w n) .normal (lw l (i + 1)) (stR t x y w n') := by
  have hil : i < l.length := (List.getElem?_eq_some_iff.1 hv).1
  have hW := liftk4 (bx y) .dead (bx v) (ro i) W
  obtain ⟨k2, r2, a2, tok2, ty2, op2, l2⟩ := v
  refine pieceL (knownS_ok (fret_of rfl hW) base_ok) mixed (stepRk k2 r2 a2 tok2 ty2 op2 l2 t x y w n n' l i) ?_ rfl rfl rfl (ren_lw _ ⟨rfl, rfl, rfl, rfl, rfl, rfl, rfl, rfl, rfl, rfl⟩ l (i + 1)) ?_
  · exact ac (dinc hil (by omega)) (ac (d_cut 0) (ac (d_dec 0 (Nat.zero_le _)) (ac (dec_true.2 ⟨rfl, rfl⟩) (ac (d_app [] (Nat.zero_le _)) (ac (d_row hv) (ac (ylt hil) rfl))))))
  · rw [List.map_append]
    exact toldL_app (Z := [bx y, rp [i]].map some) (Z' := [bx y, rp []]) ⟨by rw [ren_bx]; exact .same _, by rw [ren_rp]; exact told_cut [] i, trivial⟩ (ren_st ⟨rfl, rfl, rfl, rfl, rfl, rfl, rfl, rfl, rfl, rfl⟩ _ _ _ _ _)
end Go.Proofs.YtobehholoenaiaaGreatDoor
