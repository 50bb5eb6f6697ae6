/- The walk over a tree in TreePlaces, by induction over trees: all places in order, or left early. -/
import Derived.Test.YtobehholoenaiaaGreatDoorU8
namespace Go.Proofs.YtobehholoenaiaaGreatDoor
open Go.Am
/-- the range is left when so many places have been told -/
def stops (w : Int) (m : Nat) : Prop := (m : Int) = w ∨ m = 300
def Free (w : Int) (n k : Nat) : Prop := ∀ m, n < m → m ≤ n + k → ¬ stops w m
def Hit (w : Int) (n k m : Nat) : Prop := n < m ∧ m ≤ n + k ∧ stops w m ∧ ∀ m', n < m' → m' < m → ¬ stops w m'
/-- from the n-th place on come this tree's -/
def Occ (T : Tr) (n : Nat) (p : List Nat) (u : Tr) : Prop := ∃ tl, (pre [] T).drop n = pre p u ++ tl
theorem pre_head (p : List Nat) (u : Tr) : pre p u = (p, u) :: preK p 0 u.kids := by cases u; rfl
theorem occ_root (T : Tr) : Occ T 0 [] T := ⟨[], by simp⟩
theorem occ_get {T u : Tr} {n : Nat} {p : List Nat} (h : Occ T n p u) : (pre [] T)[n]? = some (p, u) := by
  obtain ⟨tl, h⟩ := h
  have : ((pre [] T).drop n)[0]? = some (p, u) := by rw [h, pre_head]; rfl
  simpa using this
theorem preK_split : ∀ (l : List Tr) (p : List Nat) (i z : Nat) (v : Tr), l[z]? = some v → ∃ tl, preK p i l = preK p i (l.take z) ++ (pre (p ++ [i + z]) v ++ tl)
  | [], p, i, z, v, h => by simp at h
  | t :: l, p, i, 0, v, h => by simp at h; subst h; exact ⟨preK p (i + 1) l, by simp [preK]⟩
  | t :: l, p, i, z + 1, v, h => by
    obtain ⟨tl, e⟩ := preK_split l p (i + 1) z v (by simpa using h)
    refine ⟨tl, ?_⟩
    simp only [List.take_succ_cons, preK, e, List.append_assoc]
    rw [show i + 1 + z = i + (z + 1) from by omega]
theorem occ_kid {T u v : Tr} {n z : Nat} {p : List Nat} (h : Occ T n p u) (hv : u.kids[z]? = some v) : Occ T (n + 1 + sizes (u.kids.take z)) (p ++ [z]) v := by
  obtain ⟨tl, h⟩ := h
  obtain ⟨tl2, e⟩ := preK_split u.kids p 0 z v hv
  refine ⟨tl2 ++ tl, ?_⟩
  rw [show n + 1 + sizes (u.kids.take z) = n + (1 + sizes (u.kids.take z)) from by omega, ← List.drop_drop, h, pre_head, e]
  rw [Nat.zero_add, Nat.add_comm 1, List.cons_append, List.drop_succ_cons, List.append_assoc, ← preK_len p 0 (u.kids.take z), List.drop_left, List.append_assoc]
theorem stop_hit {w : Int} {n k : Nat} (h : ¬ Free w n k) : ∃ m, Hit w n k m := by
  have h1 : ∃ m, n < m ∧ m ≤ n + k ∧ stops w m := by
    refine Classical.byContradiction fun hc => h fun m h1 h2 h3 => hc ⟨m, h1, h2, h3⟩
  obtain ⟨m, h1, h2, h3⟩ := h1
  have key : ∀ j, ∀ m, m ≤ j → n < m → m ≤ n + k → stops w m → ∃ m, Hit w n k m := by
    intro j
    induction j with
    | zero => intro m hm hn; omega
    | succ j ih =>
      intro m hm hn hk hs
      by_cases hf : ∀ m', n < m' → m' < m → ¬ stops w m'
      · exact ⟨m, hn, hk, hs, hf⟩
      · obtain ⟨m', q⟩ := Classical.not_forall.1 hf
        have q1 : n < m' ∧ m' < m ∧ stops w m' := by
          refine Classical.byContradiction fun hc => q fun a b c => hc ⟨a, b, c⟩
        exact ih m' (by omega) q1.1 (by omega) q1.2.2
  exact key m m (Nat.le_refl _) h1 h2 h3
theorem spot_get {T u : Tr} {n : Nat} {p : List Nat} (h : (pre [] T)[n]? = some (p, u)) : dec ((spots (pre [] T))[n]? = some (sI p :: cells u)) = true := dz (by simp [spots, h, spotRow])
theorem spot_lt {T u : Tr} {n : Nat} {p : List Nat} (h : (pre [] T)[n]? = some (p, u)) : (!decide ((↑n : Int) ≥ (↑(List.length (spots (pre [] T))) : Int))) = true := by
  have := (List.getElem?_eq_some_iff.1 h).1
  simp [spots]
  omega
theorem callR3_ok {y : Tr} {p : List Nat} (hy : size y ≤ 100000) (hp : p.length ≤ 100000) : CallOk Tryz.prog (callR3 (rowsI p) (cells y)) :=
  known1_ok (fun args e => by subst e; exact ⟨same18 p hp, by simp [pureVals, AV.pure, pure_rowsI], rfl⟩) (known1_ok (fun args e => by
    subst e
    refine ⟨same11 y ?_, by simp [pureVals, AV.pure, pure_cells], rfl⟩
    have : ∀ t : Tr, size t ≤ 100000 → Fit t := Tr.ind fun k r a tok ty op l ih h => by
      have := length_sizes l
      simp only [size] at h
      simp only [Fit]
      refine ⟨by omega, ?_⟩
      have hall : ∀ l : List Tr, (∀ u ∈ l, Fit u) → Fits l := by
        intro l
        induction l with
        | nil => intro _; simp [Fits]
        | cons a l ih => intro h; simp only [Fits]; exact ⟨h a (by simp), ih fun u hu => h u (by simp [hu])⟩
      exact hall l fun u hu => ih u hu (by
        obtain ⟨i, hi⟩ := List.mem_iff_getElem?.1 hu
        have := size_kid hi
        omega)
    exact this y hy) base_ok)
theorem asks_rd {T y : Tr} {p : List Nat} {n : Nat} (h : (pre [] T)[n]? = some (p, y)) (hn : n ≤ 100000) : allT [dec (IntKind.wrap IntKind.i64 (↑(n + 1) : Int) = (↑(n + 1) : Int)), true, dec ([tv y, tv y] = [tv y, tv y]), pureVals [tv y, tv y] && true && true, dec ((spots (pre [] T))[n]? = some (sI p :: cells y)), true, dec ([sI p, sI p] = [sI p, sI p]), pureVals [sI p, sI p] && true && true, dec ((spots (pre [] T))[n]? = some (sI p :: cells y)), !decide ((↑n : Int) ≥ (↑(List.length (spots (pre [] T))) : Int))] = true :=
  ac (dz (wrap64 (by omega) (by omega))) (ac rfl (ac (dz rfl) (ac (by simp [pureVals, pure_tv]) (ac (spot_get h) (ac rfl (ac (dz rfl) (ac (by simp [pureVals, AV.pure, pure_rowsI]) (ac (spot_get h) (ac (spot_lt h) rfl)))))))))
set_option maxRecDepth 100000 in
theorem round_go {T y : Tr} {w : Int} {p : List Nat} {n : Nat} (h : (pre [] T)[n]? = some (p, y)) (hy : size y ≤ 100000) (hp : p.length ≤ 100000) (hn : n ≤ 100000) (hs : ¬ stops w (n + 1)) :
    FRet Tryz.prog (yBase + 5) [sI p, tv y] (B3 T y w n p) (B true) (S3 T w (n + 1 : Nat) (.sr 9 1 0 p.length) ++ [rp p, bx y, bx y]) := by
  have hc := callR3_ok hy hp
  have ha := asks_rd h hn
  have h1 : (!((↑(n + 1) : Int) == 300)) = true := by have : n + 1 ≠ 300 := fun e => hs (.inr e); simp; omega
  have h2 : (!((↑(n + 1) : Int) == w)) = true := by have : ((n + 1 : Nat) : Int) ≠ w := fun e => hs (.inl e); simpa using this
  obtain ⟨k, r, a, tok, ty, op, l⟩ := y
  exact fret_of_run (runOne_ok hc mixed _ _) (rdn_n (cells T) (spots (pre [] T)) k r a tok ty op (rowsT l) w n (rowsI p) p.length) (ac h1 (ac h2 ha))
set_option maxRecDepth 100000 in
theorem round_stop {T y : Tr} {w : Int} {p : List Nat} {n : Nat} (h : (pre [] T)[n]? = some (p, y)) (hy : size y ≤ 100000) (hp : p.length ≤ 100000) (hn : n ≤ 100000) (hs : stops w (n + 1)) :
    FRet Tryz.prog (yBase + 5) [sI p, tv y] (B3 T y w n p) (B false) (st3 (cells T) (spots (pre [] T)) w (n + 1 : Nat) (.sr 9 1 0 p.length) ex0 ++ [rp p, bx y, bx y]) := by
  have hc := callR3_ok hy hp
  have ha := asks_rd h hn
  by_cases hw : ((n + 1 : Nat) : Int) = w
  · obtain ⟨k, r, a, tok, ty, op, l⟩ := y
    exact fret_of_run (runOne_ok hc mixed _ _) (rdn_w (cells T) (spots (pre [] T)) k r a tok ty op (rowsT l) w n (rowsI p) p.length) (ac (by simpa using hw) ha)
  · have h3 : n + 1 = 300 := hs.resolve_left hw
    have h1 : ((↑(n + 1) : Int) == 300) = true := by simp; omega
    have h2 : (!((↑(n + 1) : Int) == w)) = true := by simpa using hw
    obtain ⟨k, r, a, tok, ty, op, l⟩ := y
    exact fret_of_run (runOne_ok hc mixed _ _) (rdn_m (cells T) (spots (pre [] T)) k r a tok ty op (rowsT l) w n (rowsI p) p.length) (ac h1 (ac h2 ha))
set_option maxRecDepth 100000 in
theorem roundR_go {T : Tr} {w : Int} (hy : size T ≤ 100000) (hs : ¬ stops w 1) : FRet Tryz.prog (yBase + 5) [sI [], tv T] (A3 T T w (0 : Nat)) (B true) (S3 T w (1 : Nat) nilS ++ [bx T, bx T]) := by
  have hc := callR3_ok (p := []) hy (by simp)
  have ha := asks_rd (occ_get (occ_root T)) (Nat.zero_le _)
  have h1 : (!((↑(0 + 1 : Nat) : Int) == 300)) = true := rfl
  have h2 : (!((↑(0 + 1 : Nat) : Int) == w)) = true := by have : ((1 : Nat) : Int) ≠ w := fun e => hs (.inl e); simpa using this
  have key : ∀ (u : Tr), u = T → FRet Tryz.prog (yBase + 5) [sI [], tv u] (S3 T w (0 : Nat) nilS ++ [bx u]) (B true) (S3 T w (1 : Nat) nilS ++ [bx u, bx u]) := by
    rintro ⟨k, r, a, tok, ty, op, l⟩ e
    subst e
    exact fret_of_run (runOne_ok hc mixed _ _) (rdr_n (cells (uu k r a tok ty op l)) (spots (pre [] (uu k r a tok ty op l))) k r a tok ty op (rowsT l) w 0) (ac h1 (ac h2 ha))
  exact key T rfl
set_option maxRecDepth 100000 in
theorem roundR_stop {T : Tr} {w : Int} (hy : size T ≤ 100000) (hs : stops w 1) : FRet Tryz.prog (yBase + 5) [sI [], tv T] (A3 T T w (0 : Nat)) (B false) (st3 (cells T) (spots (pre [] T)) w (1 : Nat) nilS ex0 ++ [bx T, bx T]) := by
  have hc := callR3_ok (p := []) hy (by simp)
  have ha := asks_rd (occ_get (occ_root T)) (Nat.zero_le _)
  have hw : ((0 + 1 : Nat) : Int) = w := hs.resolve_right (by omega)
  have key : ∀ (u : Tr), u = T → FRet Tryz.prog (yBase + 5) [sI [], tv u] (S3 T w (0 : Nat) nilS ++ [bx u]) (B false) (st3 (cells T) (spots (pre [] T)) w (1 : Nat) nilS ex0 ++ [bx u, bx u]) := by
    rintro ⟨k, r, a, tok, ty, op, l⟩ e
    subst e
    exact fret_of_run (runOne_ok hc mixed _ _) (rdr_w (cells (uu k r a tok ty op l)) (spots (pre [] (uu k r a tok ty op l))) k r a tok ty op (rowsT l) w 0) (ac (by simpa using hw) ha)
  exact key T rfl
theorem f27 : Tryz.prog.funcs[27]? = some Tryz.f27 := by kernel_rfl
theorem n27 : (Tryz.f27.name == "runtime.NumGoroutine") = false := by kernel_rfl
theorem bd27 : Tryz.f27.body = some (seqs [sq1 b27] (.seq e27 (.seq (.seq r27 (.block 0 (.loop c27))) tl27))) := by kernel_rfl
theorem ren_lh {f : Nat → Nat} (h : Low f) {o o' : Nat} (ho : f o = o') : renL f (lh o) = [some (.pt 6 0), some (.pt 7 0), some (.pt 8 0), some (.pt o' 0)] := by
  obtain ⟨-, -, -, -, -, -, h6, h7, h8⟩ := h
  simp [renL, lh, AV.ren, h6, h7, h8, ho]
set_option maxRecDepth 100000 in
theorem callHn_ok {T u : Tr} {w n n' : Int} {p : List Nat} {c : Bool} {j : Option Code} (h0 : p ≠ []) (hp : p.length ≤ 100000) (hr : FRet Tryz.prog (yBase + 5) [sI p, tv u] (B3 T u w n p) (B c) (st3 (cells T) (spots (pre [] T)) w n' (.sr 9 1 0 p.length) j ++ [rp p, bx u, bx u])) :
    ∀ k r a tok ty op l, u = .mk k r a tok ty op l → CallOk Tryz.prog (callHn k r a tok ty op (rowsT l) (cells T) (spots (pre [] T)) w n n' c j (rowsI p) p.length) := by
  rintro k r a tok ty op l rfl
  have hc := clone28_at p h0 hp (ob := B3 T (.mk k r a tok ty op l) w n p) (o := 9) rfl
  exact knownR_ok (fret_of rfl hc) (knownS_ok hr base_ok)
set_option maxRecDepth 100000 in
theorem callHr_ok {T u : Tr} {w n n' : Int} {c : Bool} {j : Option Code} (hr : FRet Tryz.prog (yBase + 5) [sI [], tv u] (A3 T u w n) (B c) (st3 (cells T) (spots (pre [] T)) w n' nilS j ++ [bx u, bx u])) :
    ∀ k r a tok ty op l, u = .mk k r a tok ty op l → CallOk Tryz.prog (callHr k r a tok ty op (rowsT l) (cells T) (spots (pre [] T)) w n n' c j) := by
  rintro k r a tok ty op l rfl
  have hc : ARet Tryz.prog 28 [nilS] [] [] (sI []) [] := clone28_nil []
  exact known1_ok (fun args e => by subst e; exact ⟨hc, rfl, rfl⟩) (knownS_ok hr base_ok)
abbrev lowr : Low (fsel [0, 1, 2, 3, 4, 5, 6, 7, 8] 9) := ⟨rfl, rfl, rfl, rfl, rfl, rfl, rfl, rfl, rfl⟩
variable {R : AEnd → List Ob → Prop}
set_option maxRecDepth 100000 in
theorem head_go {T u : Tr} {w : Int} {n : Nat} {p : List Nat} (h : Occ T n p u) (hu : size u ≤ 100000) (hp : p.length ≤ 100000) (hn : n ≤ 100000) (h0 : p ≠ []) (hs : ¬ stops w (n + 1)) {rest : Code} (k : Fin Tryz.prog Tryz.f27 10 R rest (lh 10) (B3 T u w (n + 1 : Nat) p)) :
    Fin Tryz.prog Tryz.f27 10 R (seqs [sq1 b27] (.seq e27 rest)) (argLoc 0 (aw (cells u))) (E3 T w n p) := by
  have hc := callHn_ok h0 hp (round_go (occ_get h) hu hp hn hs)
  obtain ⟨k2, r2, a2, tok2, ty2, op2, l2⟩ := u
  exact fin_head base_ok mixed (lh 10) (B3 T (.mk k2 r2 a2 tok2 ty2 op2 l2) w n p) (hdn_0 k2 r2 a2 tok2 ty2 op2 (rowsT l2) (cells T) (spots (pre [] T)) w n (rowsI p) p.length) rfl rfl rfl (ren_lh (low_all _ _ rfl) rfl) (toldL_all (A := B3 T (.mk k2 r2 a2 tok2 ty2 op2 l2) w n p) (ren_B3 (low_all _ _ rfl) rfl ..))
    (fin_piece (pieceL (L' := lh 10) (ob' := B3 T (.mk k2 r2 a2 tok2 ty2 op2 l2) w (n + 1 : Nat) p) (hc _ _ _ _ _ _ _ rfl) mixed (hdn_t k2 r2 a2 tok2 ty2 op2 (rowsT l2) (cells T) (spots (pre [] T)) w n (n + 1 : Nat) (rowsI p) p.length) (ac (dz ⟨rfl, rfl⟩) (ac (dz ⟨rfl, rfl⟩) rfl)) rfl rfl rfl (ren_lh (low_all _ _ rfl) rfl) (toldL_all (A := B3 T (.mk k2 r2 a2 tok2 ty2 op2 l2) w (n + 1 : Nat) p) (ren_B3 (low_all _ _ rfl) rfl ..))) k)
set_option maxRecDepth 100000 in
theorem head_stop {T u : Tr} {w : Int} {n : Nat} {p : List Nat} (h : Occ T n p u) (hu : size u ≤ 100000) (hp : p.length ≤ 100000) (hn : n ≤ 100000) (h0 : p ≠ []) (hs : stops w (n + 1)) (hR : ∀ xs, R (.ret (B false)) (st3 (cells T) (spots (pre [] T)) w (n + 1 : Nat) (.sr 9 1 0 p.length) ex0 ++ [rp p] ++ xs)) {rest : Code} :
    Fin Tryz.prog Tryz.f27 10 R (seqs [sq1 b27] (.seq e27 rest)) (argLoc 0 (aw (cells u))) (E3 T w n p) := by
  have hc := callHn_ok h0 hp (round_stop (occ_get h) hu hp hn hs)
  obtain ⟨k2, r2, a2, tok2, ty2, op2, l2⟩ := u
  refine fin_head base_ok mixed (lh 10) (B3 T (.mk k2 r2 a2 tok2 ty2 op2 l2) w n p) (hdn_0 k2 r2 a2 tok2 ty2 op2 (rowsT l2) (cells T) (spots (pre [] T)) w n (rowsI p) p.length) rfl rfl rfl (ren_lh (low_all _ _ rfl) rfl) (toldL_all (A := B3 T (.mk k2 r2 a2 tok2 ty2 op2 l2) w n p) (ren_B3 (low_all _ _ rfl) rfl ..))
    (fin_rets (rets_seq (rets_run (obs := st3 (cells T) (spots (pre [] T)) w (n + 1 : Nat) (.sr 9 1 0 p.length) ex0 ++ [rp p]) (hc _ _ _ _ _ _ _ rfl) mixed (hdn_f k2 r2 a2 tok2 ty2 op2 (rowsT l2) (cells T) (spots (pre [] T)) w n (n + 1 : Nat) (rowsI p) p.length) (ac (dz ⟨rfl, rfl⟩) (ac (dz ⟨rfl, rfl⟩) rfl)) rfl hR)))
set_option maxRecDepth 100000 in
theorem headR_go {T : Tr} {w : Int} (hu : size T ≤ 100000) (hs : ¬ stops w 1) {rest : Code} (k : Fin Tryz.prog Tryz.f27 9 R rest (lh 9) (A3 T T w (1 : Nat))) :
    Fin Tryz.prog Tryz.f27 9 R (seqs [sq1 b27] (.seq e27 rest)) (argLoc 0 (aw (cells T))) (S3 T w (0 : Nat) nilS) := by
  have hc := callHr_ok (roundR_go hu hs)
  obtain ⟨k2, r2, a2, tok2, ty2, op2, l2⟩ := T
  exact fin_head base_ok mixed (lh 9) (A3 (.mk k2 r2 a2 tok2 ty2 op2 l2) (.mk k2 r2 a2 tok2 ty2 op2 l2) w (0 : Nat)) (hdr_0 k2 r2 a2 tok2 ty2 op2 (rowsT l2) (cells (.mk k2 r2 a2 tok2 ty2 op2 l2)) (spots (pre [] (.mk k2 r2 a2 tok2 ty2 op2 l2))) w (0 : Nat)) rfl rfl rfl (ren_lh (low_all _ _ rfl) rfl) (toldL_all (A := A3 (.mk k2 r2 a2 tok2 ty2 op2 l2) (.mk k2 r2 a2 tok2 ty2 op2 l2) w (0 : Nat)) (ren_A3 (low_all _ _ rfl) ..))
    (fin_piece (pieceL (L' := lh 9) (ob' := A3 (.mk k2 r2 a2 tok2 ty2 op2 l2) (.mk k2 r2 a2 tok2 ty2 op2 l2) w (1 : Nat)) (hc _ _ _ _ _ _ _ rfl) mixed (hdr_t k2 r2 a2 tok2 ty2 op2 (rowsT l2) (cells (.mk k2 r2 a2 tok2 ty2 op2 l2)) (spots (pre [] (.mk k2 r2 a2 tok2 ty2 op2 l2))) w (0 : Nat) (1 : Nat)) (ac (dz ⟨rfl, rfl⟩) (ac rfl (ac (dz rfl) (ac rfl rfl)))) rfl rfl rfl (ren_lh (low_all _ _ rfl) rfl) (toldL_all (A := A3 (.mk k2 r2 a2 tok2 ty2 op2 l2) (.mk k2 r2 a2 tok2 ty2 op2 l2) w (1 : Nat)) (ren_A3 (low_all _ _ rfl) ..))) k)
set_option maxRecDepth 100000 in
theorem headR_stop {T : Tr} {w : Int} (hu : size T ≤ 100000) (hs : stops w 1) (hR : ∀ xs, R (.ret (B false)) (st3 (cells T) (spots (pre [] T)) w (1 : Nat) nilS ex0 ++ xs)) {rest : Code} :
    Fin Tryz.prog Tryz.f27 9 R (seqs [sq1 b27] (.seq e27 rest)) (argLoc 0 (aw (cells T))) (S3 T w (0 : Nat) nilS) := by
  have hc := callHr_ok (roundR_stop hu hs)
  obtain ⟨k2, r2, a2, tok2, ty2, op2, l2⟩ := T
  exact fin_head base_ok mixed (lh 9) (A3 (.mk k2 r2 a2 tok2 ty2 op2 l2) (.mk k2 r2 a2 tok2 ty2 op2 l2) w (0 : Nat)) (hdr_0 k2 r2 a2 tok2 ty2 op2 (rowsT l2) (cells (.mk k2 r2 a2 tok2 ty2 op2 l2)) (spots (pre [] (.mk k2 r2 a2 tok2 ty2 op2 l2))) w (0 : Nat)) rfl rfl rfl (ren_lh (low_all _ _ rfl) rfl) (toldL_all (A := A3 (.mk k2 r2 a2 tok2 ty2 op2 l2) (.mk k2 r2 a2 tok2 ty2 op2 l2) w (0 : Nat)) (ren_A3 (low_all _ _ rfl) ..))
    (fin_rets (rets_seq (rets_run (obs := st3 (cells (.mk k2 r2 a2 tok2 ty2 op2 l2)) (spots (pre [] (.mk k2 r2 a2 tok2 ty2 op2 l2))) w (1 : Nat) nilS ex0) (hc _ _ _ _ _ _ _ rfl) mixed (hdr_f k2 r2 a2 tok2 ty2 op2 (rowsT l2) (cells (.mk k2 r2 a2 tok2 ty2 op2 l2)) (spots (pre [] (.mk k2 r2 a2 tok2 ty2 op2 l2))) w (0 : Nat) (1 : Nat)) (ac (dz ⟨rfl, rfl⟩) (ac rfl (ac (dz rfl) (ac rfl rfl)))) rfl hR)))
end Go.Proofs.YtobehholoenaiaaGreatDoor
