/- The walk over a tree in TreePlaces, whole. -/
import Derived.Test.YtobehholoenaiaaGreatDoorU9
namespace Go.Proofs.YtobehholoenaiaaGreatDoor
open Go.Am
theorem und_S3 {N : Nat} (h : 9 ≤ N) (T : Tr) (w n : Int) {path : AV} (j : Option Code) (hp : path.und N = true) : (st3 (cells T) (spots (pre [] T)) w n path j).all (Ob.und N) = true := by
  have b : ∀ i, i < 9 → Nat.blt i N = true := fun i hi => blt_of (by omega)
  simp [st3, lp3, lpC3, Ob.und, undVals, AV.und, und_cells, hp, b, undRows_pure _ _ (pure_spots (pre [] T))]
theorem und_D3 (T : Tr) (w n : Int) (j : Option Code) : (D3 T w n j).all (Ob.und 9) = true := by
  simp [D3, lp3, lpC3, Ob.und, undVals, AV.und, und_cells, undRows_pure _ _ (pure_spots (pre [] T))]
theorem und_D4 (T : Tr) (w n : Int) : (D4 T w n).all (Ob.und 10) = true := by
  simp [D4, lp3, lpC3, Ob.und, undVals, AV.und, und_cells, undRows_pure _ _ (pure_spots (pre [] T))]
theorem und_F3 (T u : Tr) (w n : Int) (p : List Nat) : (F3 T u w n p).all (Ob.und (F3 T u w n p).length) = true := by
  unfold F3
  split
  · rw [show (E3 T w n p).length = 10 from rfl]
    unfold E3 S3
    have e2 := und_rp 10 p
    rw [List.all_append, und_S3 (by omega) T w n none (by simp [AV.und])]
    simp only [List.all_cons, List.all_nil, e2]
    rfl
  · rw [show (N3 T u w n p).length = 12 from rfl]
    unfold N3 S3
    have e1 := und_bx 12 u
    have e2 := und_rp 12 p
    have e3 : Ob.und 12 .dead = true := rfl
    rw [List.all_append, und_S3 (by omega) T w n none (by simp [AV.und])]
    simp only [List.all_cons, List.all_nil, e1, e2, e3]
    rfl
theorem ren_N3 {f : Nat → Nat} (h : Low f) (h11 : f 11 = 11) (T u : Tr) (w n : Int) (p : List Nat) : (N3 T u w n p).map (Ob.ren f) = N3 T u w n p := by
  rw [map_N3 h h11]; rfl
theorem ren_lx {f : Nat → Nat} (h : Low f) : renL f lx = [some (.pt 6 0), some (.pt 7 0), some (.pt 8 0)] := by
  obtain ⟨-, -, -, -, -, -, h6, h7, h8⟩ := h
  simp [renL, lx, AV.ren, h6, h7, h8]
theorem endB {T u : Tr} {w n : Int} {p : List Nat} {l : List Tr} {i : Nat} (hi : l.length ≤ i) : Brk Tryz.prog Tryz.f27 10 (fun e o => e = .ret (B true) ∧ ∃ xs, o = E3 T w n p ++ xs) 0 c27 tl27 (lw (rowsT l) i) (B3 T u w n p) :=
  brk_exit (L1 := lx) (ob1 := B3 T u w n p) (pieceL base_ok mixed (exitB (cells T) (spots (pre [] T)) w n (cells u) (rowsI p) p.length (rowsT l) i) (ac (nlt (by rw [rowsT_len]; exact hi)) rfl) rfl rfl rfl (ren_lx (low_all _ _ rfl)) (toldL_all (A := B3 T u w n p) (ren_B3 (low_all _ _ rfl) rfl ..)))
    (fin_run (obs := B3 T u w n p) base_ok mixed (lastB (cells T) (spots (pre [] T)) w n (cells u) (rowsI p) p.length) rfl rfl fun xs => ⟨rfl, bx u :: xs, by simp [B3, E3]⟩)
theorem endN {T u : Tr} {w n : Int} {p : List Nat} {l : List Tr} {i : Nat} (hi : l.length ≤ i) : Brk Tryz.prog Tryz.f27 10 (fun e o => e = .ret (B true) ∧ ∃ xs, o = N3 T u w n p ++ xs) 0 c27 tl27 (lw (rowsT l) i) (N3 T u w n p) :=
  brk_exit (L1 := lx) (ob1 := N3 T u w n p) (pieceL base_ok mixed (exitN (cells T) (spots (pre [] T)) w n (cells u) (rowsI p) p.length (rowsT l) i) (ac (nlt (by rw [rowsT_len]; exact hi)) rfl) rfl rfl rfl (ren_lx (low_all _ _ rfl)) (toldL_all (A := N3 T u w n p) (ren_N3 (low_all _ _ rfl) rfl ..)))
    (fin_run (obs := N3 T u w n p) base_ok mixed (lastN (cells T) (spots (pre [] T)) w n (cells u) (rowsI p) p.length) rfl rfl fun xs => ⟨rfl, xs, rfl⟩)
/-- the store at the loop's head when i kids are done -/
noncomputable def hd3N (T u : Tr) (w : Int) (n : Nat) (p : List Nat) (l : List Tr) : Nat → List Ob
  | 0 => B3 T u w (n + 1 : Nat) p
  | i + 1 => N3 T u w (n + 1 + sizes (l.take (i + 1)) : Nat) p
theorem sizes_le (l : List Tr) (k : Nat) : sizes (l.take k) ≤ sizes l := by
  induction l generalizing k with
  | nil => simp [sizes]
  | cons a l ih => cases k with
    | zero => simp [sizes]
    | succ k => have := ih k; simp only [List.take_succ_cons, sizes]; omega
theorem kidsN {T u : Tr} {w n : Int} {p : List Nat} {l : List Tr} (hu : u.kids = l) : Piece Tryz.prog 36 10 r27 (lh 10) (B3 T u w n p) .normal (lw (rowsT l) 0) (B3 T u w n p) := by
  obtain ⟨k, r, a, tok, ty, op, l'⟩ := u
  simp only [Tr.kids] at hu
  subst hu
  exact pieceL base_ok mixed (kids_n k r a tok ty op (rowsT l') (cells T) (spots (pre [] T)) w n (rowsI p) p.length) rfl rfl rfl rfl (ren_lw (low_all _ _ rfl) _ _) (toldL_all (A := B3 T (.mk k r a tok ty op l') w n p) (ren_B3 (low_all _ _ rfl) rfl ..))
theorem kidsR {T u : Tr} {w n : Int} {l : List Tr} (hu : u.kids = l) : Piece Tryz.prog 36 9 r27 (lh 9) (A3 T u w n) .normal (lw (rowsT l) 0) (A3 T u w n) := by
  obtain ⟨k, r, a, tok, ty, op, l'⟩ := u
  simp only [Tr.kids] at hu
  subst hu
  exact pieceL base_ok mixed (kids_r k r a tok ty op (rowsT l') (cells T) (spots (pre [] T)) w n) rfl rfl rfl rfl (ren_lw (low_all _ _ rfl) _ _) (toldL_all (A := A3 T (.mk k r a tok ty op l') w n) (ren_A3 (low_all _ _ rfl) ..))
/-- a kid that is gone over, as a step -/
theorem stepN {T u v : Tr} {w : Int} {n i : Nat} {p : List Nat} {l : List Tr} (hp : p.length ≤ 100000) (hl : l.length ≤ 100000) (hv : l[i]? = some v) (W : ARet Tryz.prog 27 (aw (cells v)) (E3 T w (n + 1 + sizes (l.take i) : Nat) (p ++ [i])) [] (B true) (F3 T v w (n + 1 + sizes (l.take (i + 1)) : Nat) (p ++ [i]))) :
    Piece Tryz.prog 36 10 c27 (lw (rowsT l) i) (hd3N T u w n p l i) .normal (lw (rowsT l) (i + 1)) (hd3N T u w n p l (i + 1)) := by
  unfold F3 at W
  cases i with
  | zero =>
    rw [List.take_zero, show sizes [] = 0 from rfl, Nat.add_zero] at W
    split at W
    · exact pieceBl hp hl hv W
    · exact pieceBk hp hl hv W
  | succ i =>
    split at W
    · exact pieceNl hp hl hv W
    · exact pieceNk hp hl hv W
theorem haltN {T u v : Tr} {w : Int} {n i m : Nat} {p : List Nat} {l : List Tr} (hp : p.length ≤ 100000) (hv : l[i]? = some v) (W : ARet Tryz.prog 27 (aw (cells v)) (E3 T w (n + 1 + sizes (l.take i) : Nat) (p ++ [i])) [] (B false) (D4 T w m)) :
    Brk Tryz.prog Tryz.f27 10 (fun e o => e = .ret (B false) ∧ ∃ xs, o = D4 T w m ++ xs) 0 c27 tl27 (lw (rowsT l) i) (hd3N T u w n p l i) := by
  cases i with
  | zero =>
    rw [List.take_zero, show sizes [] = 0 from rfl, Nat.add_zero] at W
    exact stopB hp hv W
  | succ i => exact stopN hp hv W
theorem walk3 {T : Tr} (w : Int) : ∀ (u : Tr) (p : List Nat) (n : Nat), p ≠ [] → Occ T n p u → p.length + size u ≤ 3000 → n + size u ≤ 50000 →
    (Free w n (size u) → ARet Tryz.prog 27 (aw (cells u)) (E3 T w n p) [] (B true) (F3 T u w (n + size u : Nat) p)) ∧ (∀ m, Hit w n (size u) m → ARet Tryz.prog 27 (aw (cells u)) (E3 T w n p) [] (B false) (D4 T w m)) := Tr.ind fun k r a tok ty op l ih p n h0 hocc hps hn => by
  have hsz : size (.mk k r a tok ty op l) = sizes l + 1 := rfl
  have hll := length_sizes l
  generalize hU : Tr.mk k r a tok ty op l = u at *
  have hk : u.kids = l := by subst hU; rfl
  have hpos : 1 ≤ size u := size_pos u
  refine ⟨fun hfree => ?_, fun m hhit => ?_⟩
  · have hs : ¬ stops w (n + 1) := hfree (n + 1) (by omega) (by omega)
    refine aret_pcs f27 n27 bd27 (Nat.le_of_ble_eq_true rfl) (by unfold F3; split <;> exact Nat.le_of_ble_eq_true rfl) rfl (und_F3 ..) ?_
    refine head_go hocc (by omega) (by omega) (by omega) h0 hs ?_
    refine fin_loopH (ι := Nat) (fun i => lw (rowsT l) i) (hd3N T u w n p l) (fun i => i ≤ l.length) (fun i => l.length - i) 0 (Nat.zero_le _) (kidsN hk) fun i hi => ?_
    by_cases hil : i < l.length
    · left
      obtain ⟨v, hv⟩ : ∃ v, l[i]? = some v := ⟨_, List.getElem?_eq_getElem hil⟩
      have hsv := size_kid hv
      have hst := sizes_take l i v hv
      have hle := sizes_le l (i + 1)
      have W := (ih v (List.mem_of_getElem? hv) (p ++ [i]) (n + 1 + sizes (l.take i)) (by simp) (by rw [← hk]; exact occ_kid hocc (by rw [hk]; exact hv)) (by simp; omega) (by omega)).1 (fun m h1 h2 => hfree m (by omega) (by omega))
      rw [show n + 1 + sizes (l.take i) + size v = n + 1 + sizes (l.take (i + 1)) from by omega] at W
      exact ⟨i + 1, hil, by omega, stepN (by omega) (by omega) hv W⟩
    · right
      have hi' : i = l.length := by omega
      subst hi'
      cases l with
      | nil =>
        have e : n + size u = n + 1 := by rw [hsz]; rfl
        unfold F3
        rw [hk, e]
        exact endB (Nat.le_refl _)
      | cons v l =>
        have e : n + 1 + sizes ((v :: l).take (l.length + 1)) = n + size u := by
          rw [List.take_of_length_le (by simp)]; omega
        unfold hd3N F3
        rw [hk]
        simp only [List.length_cons]
        rw [e]
        exact endN (Nat.le_refl _)
  · by_cases hs : stops w (n + 1)
    · have hm : m = n + 1 := by
        refine Classical.byContradiction fun hc => ?_
        have := hhit.1
        exact hhit.2.2.2 (n + 1) (by omega) (by omega) hs
      subst hm
      have hA : ARet Tryz.prog 27 (aw (cells u)) (E3 T w n p) [] (B false) (st3 (cells T) (spots (pre [] T)) w (n + 1 : Nat) (.sr 9 1 0 p.length) ex0 ++ [rp p]) := by
        refine aret_pcs f27 n27 bd27 (Nat.le_of_ble_eq_true rfl) (Nat.le_of_ble_eq_true rfl) rfl ?_ (head_stop hocc (by omega) (by omega) (by omega) h0 hs fun xs => ⟨rfl, xs, rfl⟩)
        rw [show (st3 (cells T) (spots (pre [] T)) w (n + 1 : Nat) (.sr 9 1 0 p.length) ex0 ++ [rp p]).length = 10 from rfl, List.all_append, und_S3 (by omega) T w _ ex0 (by simp [AV.und])]
        have e2 := und_rp 10 p
        simp only [List.all_cons, List.all_nil, e2]
        rfl
      refine aret_told hA rfl fun i Y hY => ?_
      match i with
      | 0 => exact .inr hY
      | 1 => exact .inr hY
      | 2 => exact .inr hY
      | 3 => exact .inr hY
      | 4 => exact .inr hY
      | 5 => exact .inr hY
      | 6 => exact .inl (by simpa [D4] using hY.symm)
      | 7 => exact .inl (by simpa [D4] using hY.symm)
      | 8 => exact .inl (by simpa [D4] using hY.symm)
      | 9 => exact .inl (by simpa [D4] using hY.symm)
      | i + 10 => simp [D4] at hY
    · have hm1 : n + 1 < m := by
        have := hhit.1
        rcases Nat.lt_or_ge (n + 1) m with h | h
        · exact h
        · have : m = n + 1 := by omega
          subst this
          exact absurd hhit.2.2.1 hs
      refine aret_pcs f27 n27 bd27 (Nat.le_of_ble_eq_true rfl) (Nat.le_of_ble_eq_true rfl) rfl (und_D4 ..) ?_
      refine head_go hocc (by omega) (by omega) (by omega) h0 hs ?_
      refine fin_loopH (ι := Nat) (fun i => lw (rowsT l) i) (hd3N T u w n p l) (fun i => i ≤ l.length ∧ n + 1 + sizes (l.take i) < m) (fun i => l.length - i) 0 ⟨Nat.zero_le _, by simpa [sizes] using hm1⟩ (kidsN hk) fun i hi => ?_
      by_cases hil : i < l.length
      · obtain ⟨v, hv⟩ : ∃ v, l[i]? = some v := ⟨_, List.getElem?_eq_getElem hil⟩
        have hsv := size_kid hv
        have hst := sizes_take l i v hv
        have hle := sizes_le l (i + 1)
        have W := ih v (List.mem_of_getElem? hv) (p ++ [i]) (n + 1 + sizes (l.take i)) (by simp) (by rw [← hk]; exact occ_kid hocc (by rw [hk]; exact hv)) (by simp; omega) (by omega)
        by_cases hin : m ≤ n + 1 + sizes (l.take i) + size v
        · right
          exact haltN (by omega) hv (W.2 m ⟨hi.2, hin, hhit.2.2.1, fun m' h1 h2 => hhit.2.2.2 m' (by omega) h2⟩)
        · left
          have W := W.1 (fun m' h1 h2 => hhit.2.2.2 m' (by omega) (by omega))
          rw [show n + 1 + sizes (l.take i) + size v = n + 1 + sizes (l.take (i + 1)) from by omega] at W
          exact ⟨i + 1, ⟨hil, by omega⟩, by omega, stepN (by omega) (by omega) hv W⟩
      · exfalso
        have hi' : i = l.length := by omega
        subst hi'
        have := hhit.2.1
        have h2 := hi.2
        rw [List.take_length] at h2
        omega
noncomputable def hd3R (T u : Tr) (w : Int) (l : List Tr) : Nat → List Ob
  | 0 => A3 T u w (1 : Nat)
  | i + 1 => R3 T u w (1 + sizes (l.take (i + 1)) : Nat)
theorem stepR {T u v : Tr} {w : Int} {i : Nat} {l : List Tr} (hl : l.length ≤ 100000) (hv : l[i]? = some v) (W : ARet Tryz.prog 27 (aw (cells v)) (E3 T w (1 + sizes (l.take i) : Nat) [i]) [] (B true) (F3 T v w (1 + sizes (l.take (i + 1)) : Nat) [i])) :
    Piece Tryz.prog 36 9 c27 (lw (rowsT l) i) (hd3R T u w l i) .normal (lw (rowsT l) (i + 1)) (hd3R T u w l (i + 1)) := by
  unfold F3 at W
  cases i with
  | zero =>
    rw [List.take_zero, show sizes [] = 0 from rfl, Nat.add_zero] at W
    split at W
    · exact pieceAl hl hv W
    · exact pieceAk hl hv W
  | succ i =>
    split at W
    · exact pieceRl hl hv W
    · exact pieceRk hl hv W
theorem haltR {T u v : Tr} {w : Int} {i m : Nat} {l : List Tr} (hv : l[i]? = some v) (W : ARet Tryz.prog 27 (aw (cells v)) (E3 T w (1 + sizes (l.take i) : Nat) [i]) [] (B false) (D4 T w m)) :
    Brk Tryz.prog Tryz.f27 9 (fun e o => e = .ret (B false) ∧ ∃ xs, o = D3 T w m ex0 ++ xs) 0 c27 tl27 (lw (rowsT l) i) (hd3R T u w l i) := by
  cases i with
  | zero =>
    rw [List.take_zero, show sizes [] = 0 from rfl, Nat.add_zero] at W
    exact stopA hv W
  | succ i => exact stopR hv W
/-- at the end all but the count is forgotten -/
theorem tell_D3 {T : Tr} {w n : Int} {path : AV} {tail : List Ob} {L : Am.Loc} : Tell Tryz.prog 36 9 L (S3 T w n path ++ tail) [] (D3 T w n none) := by
  have hlow : ∀ N, Low (fsel [0, 1, 2, 3, 4, 5, 6, 7, 8] N) := fun N => ⟨rfl, rfl, rfl, rfl, rfl, rfl, rfl, rfl, rfl⟩
  refine tell_view (sel := [0, 1, 2, 3, 4, 5, 6, 7, 8]) ⟨by decide, rfl, fun i s X h1 h2 => ?_, fun i hi => ?_, fun t av h => by simp [lk] at h⟩
  · have hD := ren_D3 (hlow (S3 T w n path ++ tail).length) T w n none
    have hX : X.ren (fsel [0, 1, 2, 3, 4, 5, 6, 7, 8] (S3 T w n path ++ tail).length) = X := by
      have := congrArg (fun l => l[i]?) hD
      simp only [List.getElem?_map, h2, Option.map_some, Option.some.injEq] at this
      exact this
    have hs : i = s := by
      have hi : i < 9 := by have := (List.getElem?_eq_some_iff.1 h1).1; simpa using this
      have h0 : ([0, 1, 2, 3, 4, 5, 6, 7, 8] : List Nat) = List.range 9 := rfl
      rw [h0, List.getElem?_range (by simpa using hi)] at h1
      simpa using h1
    subst hs
    rw [hX]
    match i with
    | 0 => cases h2; exact ⟨_, rfl, .same _⟩
    | 1 => cases h2; exact ⟨_, rfl, .same _⟩
    | 2 => cases h2; exact ⟨_, rfl, .same _⟩
    | 3 => cases h2; exact ⟨_, rfl, .same _⟩
    | 4 => cases h2; exact ⟨_, rfl, .same _⟩
    | 5 => cases h2; exact ⟨_, rfl, .same _⟩
    | 6 => cases h2; exact ⟨_, rfl, .dead _⟩
    | 7 => cases h2; exact ⟨_, rfl, .dead _⟩
    | 8 => cases h2; exact ⟨_, rfl, .dead _⟩
    | i + 9 => simp [D3] at h2
  · match i with
    | 0 | 1 | 2 | 3 | 4 | 5 | 6 | 7 | 8 => rfl
    | i + 9 => omega
theorem lastG (a b c d e f g h i : Ob) : lastC Tryz.prog Tryz.f27.results.toList 9 (runCode Tryz.prog 36 base noPu 3000 tl27 (triM []) (triO [a, b, c, d, e, f, g, h, i]) 9 ⟨0, [.b true], []⟩) = some (B true, [some a, some b, some c, some d, some e, some f, some g, some h, some i], []) := by kernel_rfl
theorem finD3 {T : Tr} {w n : Int} {path : AV} {tail : List Ob} {L : Am.Loc} : Fin Tryz.prog Tryz.f27 9 (fun e o => e = .ret (B true) ∧ ∃ xs, o = D3 T w n none ++ xs) tl27 L (S3 T w n path ++ tail) :=
  fin_tell tell_D3 (fin_run (obs := D3 T w n none) base_ok mixed (lastG ..) rfl rfl fun xs => ⟨rfl, xs, rfl⟩)
theorem walkRoot {T : Tr} (w : Int) (hT : size T ≤ 3000) :
    (Free w 0 (size T) → ARet Tryz.prog 27 (aw (cells T)) (S3 T w (0 : Nat) nilS) [] (B true) (D3 T w (size T) none)) ∧ (∀ m, Hit w 0 (size T) m → ARet Tryz.prog 27 (aw (cells T)) (S3 T w (0 : Nat) nilS) [] (B false) (D3 T w m ex0)) := by
  obtain ⟨l, hk⟩ : ∃ l, T.kids = l := ⟨_, rfl⟩
  have hsz : size T = sizes l + 1 := by cases T; subst hk; rfl
  have hll := length_sizes l
  refine ⟨fun hfree => ?_, fun m hhit => ?_⟩
  · have hs : ¬ stops w 1 := hfree 1 (by omega) (by omega)
    refine aret_pcs f27 n27 bd27 (Nat.le_of_ble_eq_true rfl) (Nat.le_of_ble_eq_true rfl) rfl (und_D3 ..) ?_
    refine headR_go (by omega) hs ?_
    refine fin_loopH (ι := Nat) (fun i => lw (rowsT l) i) (hd3R T T w l) (fun i => i ≤ l.length) (fun i => l.length - i) 0 (Nat.zero_le _) (kidsR hk) fun i hi => ?_
    by_cases hil : i < l.length
    · left
      obtain ⟨v, hv⟩ : ∃ v, l[i]? = some v := ⟨_, List.getElem?_eq_getElem hil⟩
      have hsv := size_kid hv
      have hst := sizes_take l i v hv
      have hle := sizes_le l (i + 1)
      have W := (walk3 (T := T) w v [i] (1 + sizes (l.take i)) (by simp) (by
        have := occ_kid (z := i) (occ_root T) (by rw [hk]; exact hv)
        rw [hk, Nat.zero_add] at this; exact this) (by simp; omega) (by omega)).1 (fun m h1 h2 => hfree m (by omega) (by omega))
      rw [show 1 + sizes (l.take i) + size v = 1 + sizes (l.take (i + 1)) from by omega] at W
      exact ⟨i + 1, hil, by omega, stepR (by omega) hv W⟩
    · right
      have hi' : i = l.length := by omega
      subst hi'
      cases l with
      | nil =>
        have e : size T = 1 := by rw [hsz]; rfl
        rw [e]
        exact brk_exit (L1 := lx) (ob1 := A3 T T w (1 : Nat)) (pieceL base_ok mixed (exitA (cells T) (spots (pre [] T)) w (1 : Nat) (cells T) (rowsT []) 0) (ac (nlt (by rw [rowsT_len]; exact Nat.le_refl _)) rfl) rfl rfl rfl (ren_lx (low_all _ _ rfl)) (toldL_all (A := A3 T T w (1 : Nat)) (ren_A3 (low_all _ _ rfl) ..))) finD3
      | cons v l =>
        have e : 1 + sizes ((v :: l).take (l.length + 1)) = size T := by
          rw [List.take_of_length_le (by simp)]; omega
        unfold hd3R
        simp only [List.length_cons]
        rw [e]
        exact brk_exit (L1 := lx) (ob1 := R3 T T w (size T)) (pieceL base_ok mixed (exitR (cells T) (spots (pre [] T)) w (size T) (cells T) (rowsT (v :: l)) (v :: l).length) (ac (nlt (by rw [rowsT_len]; exact Nat.le_refl _)) rfl) rfl rfl rfl (ren_lx (low_all _ _ rfl)) (toldL_all (A := R3 T T w (size T)) (ren_R3 (low_all _ _ rfl) rfl ..))) finD3
  · by_cases hs : stops w 1
    · have hm : m = 1 := by
        refine Classical.byContradiction fun hc => ?_
        have := hhit.1
        exact hhit.2.2.2 1 (by omega) (by omega) hs
      subst hm
      have hA : ARet Tryz.prog 27 (aw (cells T)) (S3 T w (0 : Nat) nilS) [] (B false) (st3 (cells T) (spots (pre [] T)) w (1 : Nat) nilS ex0) := by
        refine aret_pcs f27 n27 bd27 (Nat.le_of_ble_eq_true rfl) (Nat.le_of_ble_eq_true rfl) rfl ?_ (headR_stop (by omega) hs fun xs => ⟨rfl, xs, rfl⟩)
        rw [show (st3 (cells T) (spots (pre [] T)) w (1 : Nat) nilS ex0).length = 9 from rfl]
        exact und_S3 (Nat.le_refl _) T w _ ex0 rfl
      refine aret_told hA rfl fun i Y hY => ?_
      match i with
      | 0 => exact .inr hY
      | 1 => exact .inr hY
      | 2 => exact .inr hY
      | 3 => exact .inr hY
      | 4 => exact .inr hY
      | 5 => exact .inr hY
      | 6 => exact .inl (by simpa [D3] using hY.symm)
      | 7 => exact .inl (by simpa [D3] using hY.symm)
      | 8 => exact .inl (by simpa [D3] using hY.symm)
      | i + 9 => simp [D3] at hY
    · have hm1 : 1 < m := by
        have := hhit.1
        rcases Nat.lt_or_ge 1 m with h | h
        · exact h
        · have : m = 1 := by omega
          subst this
          exact absurd hhit.2.2.1 hs
      refine aret_pcs f27 n27 bd27 (Nat.le_of_ble_eq_true rfl) (Nat.le_of_ble_eq_true rfl) rfl (und_D3 ..) ?_
      refine headR_go (by omega) hs ?_
      refine fin_loopH (ι := Nat) (fun i => lw (rowsT l) i) (hd3R T T w l) (fun i => i ≤ l.length ∧ 1 + sizes (l.take i) < m) (fun i => l.length - i) 0 ⟨Nat.zero_le _, by simpa [sizes] using hm1⟩ (kidsR hk) fun i hi => ?_
      by_cases hil : i < l.length
      · obtain ⟨v, hv⟩ : ∃ v, l[i]? = some v := ⟨_, List.getElem?_eq_getElem hil⟩
        have hsv := size_kid hv
        have hst := sizes_take l i v hv
        have hle := sizes_le l (i + 1)
        have W := walk3 (T := T) w v [i] (1 + sizes (l.take i)) (by simp) (by
          have := occ_kid (z := i) (occ_root T) (by rw [hk]; exact hv)
          rw [hk, Nat.zero_add] at this; exact this) (by simp; omega) (by omega)
        by_cases hin : m ≤ 1 + sizes (l.take i) + size v
        · right
          exact haltR hv (W.2 m ⟨hi.2, hin, hhit.2.2.1, fun m' h1 h2 => hhit.2.2.2 m' (by omega) h2⟩)
        · left
          have W := W.1 (fun m' h1 h2 => hhit.2.2.2 m' (by omega) (by omega))
          rw [show 1 + sizes (l.take i) + size v = 1 + sizes (l.take (i + 1)) from by omega] at W
          exact ⟨i + 1, ⟨hil, by omega⟩, by omega, stepR (by omega) hv W⟩
      · exfalso
        have hi' : i = l.length := by omega
        subst hi'
        have := hhit.2.1
        have h2 := hi.2
        rw [List.take_length] at h2
        omega
end Go.Proofs.YtobehholoenaiaaGreatDoor
