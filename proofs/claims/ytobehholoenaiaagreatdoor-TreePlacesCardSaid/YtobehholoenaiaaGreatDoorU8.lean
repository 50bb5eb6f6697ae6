/- The walk over a tree in TreePlaces: it goes over all places in order, or it is left early. -/
import Derived.Test.YtobehholoenaiaaGreatDoorU7
namespace Go.Proofs.YtobehholoenaiaaGreatDoor
open Go.Am
noncomputable def S3 (T : Tr) (w n : Int) (path : AV) : List Ob := st3 (cells T) (spots (pre [] T)) w n path none
noncomputable def D3 (T : Tr) (w n : Int) (j : Option Code) : List Ob := [.box 3 [I w], .box 4 [B false], .box 35 [.sl 8 (spots (pre [] T))], .box 3 [I n], bx T, lp3 j, .dead, .dead, .dead]
noncomputable def D4 (T : Tr) (w n : Int) : List Ob := [.box 3 [I w], .box 4 [B false], .box 35 [.sl 8 (spots (pre [] T))], .box 3 [I n], bx T, lp3 ex0, .dead, .dead, .dead, .dead]
noncomputable def E3 (T : Tr) (w n : Int) (p : List Nat) : List Ob := S3 T w n (.sr 9 1 0 p.length) ++ [rp p]
noncomputable def B3 (T u : Tr) (w n : Int) (p : List Nat) : List Ob := S3 T w n (.sr 9 1 0 p.length) ++ [rp p, bx u]
noncomputable def N3 (T u : Tr) (w n : Int) (p : List Nat) : List Ob := S3 T w n (.sr 11 1 0 p.length) ++ [.dead, bx u, rp p]
noncomputable def A3 (T u : Tr) (w n : Int) : List Ob := S3 T w n nilS ++ [bx u]
noncomputable def R3 (T u : Tr) (w n : Int) : List Ob := S3 T w n (.sr 10 1 0 0) ++ [bx u, rp []]
noncomputable def F3 (T u : Tr) (w n : Int) (p : List Nat) : List Ob := match u.kids with
  | [] => E3 T w n p
  | _ :: _ => N3 T u w n p
def Low (f : Nat → Nat) : Prop := f 0 = 0 ∧ f 1 = 1 ∧ f 2 = 2 ∧ f 3 = 3 ∧ f 4 = 4 ∧ f 5 = 5 ∧ f 6 = 6 ∧ f 7 = 7 ∧ f 8 = 8
theorem low_all (sel : List Nat) (N : Nat) (h : (List.range 9).all (fun i => fsel sel N i == i) = true) : Low (fsel sel N) := by
  have k : ∀ i, i < 9 → fsel sel N i = i := fun i hi => by
    have := List.all_eq_true.1 h i (List.mem_range.2 hi)
    simpa using this
  exact ⟨k 0 (by omega), k 1 (by omega), k 2 (by omega), k 3 (by omega), k 4 (by omega), k 5 (by omega), k 6 (by omega), k 7 (by omega), k 8 (by omega)⟩
theorem ren_lp3 {f : Nat → Nat} (h : Low f) (j : Option Code) : (lp3 j).ren f = lp3 j := by
  obtain ⟨h0, h1, h2, h3, h4, -⟩ := h
  simp [lp3, lpC3, Ob.ren, renVals, AV.ren, h0, h1, h2, h3, h4]
theorem ren_S3 {f : Nat → Nat} (h : Low f) (T : Tr) (w n : Int) (path : AV) : (S3 T w n path).map (Ob.ren f) = S3 T w n (path.ren f) := by
  have e1 := ren_lp3 h none
  have e2 := ren_bx f T
  simp only [bx] at e2
  obtain ⟨-, -, -, -, -, h5, h6, h7, h8⟩ := h
  simp only [S3, st3, List.map_cons, List.map_nil, e1, e2]
  simp [Ob.ren, renVals, AV.ren, h5, h6, h7, h8, renRows_pure _ _ (pure_spots (pre [] T))]
theorem ren_D3 {f : Nat → Nat} (h : Low f) (T : Tr) (w n : Int) (j : Option Code) : (D3 T w n j).map (Ob.ren f) = D3 T w n j := by
  have e1 := ren_lp3 h j
  have e2 := ren_bx f T
  simp only [D3, List.map_cons, List.map_nil, e1, e2]
  simp [Ob.ren, renVals, AV.ren, renRows_pure _ _ (pure_spots (pre [] T))]
theorem ren_B3 {f : Nat → Nat} (h : Low f) (h9 : f 9 = 9) (T u : Tr) (w n : Int) (p : List Nat) : (B3 T u w n p).map (Ob.ren f) = B3 T u w n p := by
  simp only [B3, List.map_append, ren_S3 h, List.map_cons, List.map_nil, ren_bx, ren_rp, AV.ren, h9]
theorem ren_A3 {f : Nat → Nat} (h : Low f) (T u : Tr) (w n : Int) : (A3 T u w n).map (Ob.ren f) = A3 T u w n := by
  simp only [A3, List.map_append, ren_S3 h, List.map_cons, List.map_nil, ren_bx, AV.ren]
theorem ren_R3 {f : Nat → Nat} (h : Low f) (h10 : f 10 = 10) (T u : Tr) (w n : Int) : (R3 T u w n).map (Ob.ren f) = R3 T u w n := by
  simp only [R3, List.map_append, ren_S3 h, List.map_cons, List.map_nil, ren_bx, ren_rp, AV.ren, h10]
theorem map_E3 {f : Nat → Nat} {o : Nat} (h : Low f) (h9 : f 9 = o) (T : Tr) (w n : Int) (q : List Nat) : (E3 T w n q).map (Ob.ren f) = S3 T w n (.sr o 1 0 q.length) ++ [rp q] := by
  simp only [E3, List.map_append, ren_S3 h, List.map_cons, List.map_nil, ren_rp, AV.ren, h9]
theorem map_N3 {f : Nat → Nat} {o : Nat} (h : Low f) (h11 : f 11 = o) (T u : Tr) (w n : Int) (q : List Nat) : (N3 T u w n q).map (Ob.ren f) = S3 T w n (.sr o 1 0 q.length) ++ [.dead, bx u, rp q] := by
  have e3 : Ob.ren f .dead = .dead := rfl
  simp only [N3, List.map_append, ren_S3 h, List.map_cons, List.map_nil, ren_bx, ren_rp, e3, AV.ren, h11]
theorem map_D3 {f : Nat → Nat} (h : Low f) (T : Tr) (w n : Int) : (D4 T w n).map (Ob.ren f) = D4 T w n := by
  have e1 := ren_lp3 h ex0
  have e2 := ren_bx f T
  simp only [D4, List.map_cons, List.map_nil, e1, e2]
  simp [Ob.ren, renVals, AV.ren, renRows_pure _ _ (pure_spots (pre [] T))]
theorem walk_lift {T v : Tr} {w n : Int} {c : Bool} {q : List Nat} {obc' ob tail : List Ob} {o : Nat} (W : ARet Tryz.prog 27 (aw (cells v)) (E3 T w n q) [] (B c) obc') (hob : ob = S3 T w n (.sr o 1 0 q.length) ++ tail) (ho : ob[o]? = some (rp q)) (h9 : 9 ≤ o) (hl : 10 ≤ obc'.length) :
    ARet Tryz.prog 27 (aw (cells v)) ob [] (B c) (back ob [0, 1, 2, 3, 4, 5, 6, 7, 8, o] [] obc') := by
  have hlow : Low (fsel [0, 1, 2, 3, 4, 5, 6, 7, 8, o] ob.length) := ⟨rfl, rfl, rfl, rfl, rfl, rfl, rfl, rfl, rfl⟩
  have hnd : [0, 1, 2, 3, 4, 5, 6, 7, 8, o].Nodup := by
    have : ([0, 1, 2, 3, 4, 5, 6, 7, 8] ++ [o] : List Nat).Nodup := by
      refine List.nodup_append.2 ⟨by decide, by simp, fun a ha b hb e => ?_⟩
      simp at ha hb
      omega
    exact this
  have e := aret_lift W (sel := [0, 1, 2, 3, 4, 5, 6, 7, 8, o]) (ob := ob) hnd ?_ (by simpa using hl)
  · have ea : renVals (fsel [0, 1, 2, 3, 4, 5, 6, 7, 8, o] ob.length) (aw (cells v)) = aw (cells v) := by
      obtain ⟨-, -, -, -, -, -, h6, h7, h8⟩ := hlow
      simp only [aw, renVals, AV.ren, renVals_pure _ _ (pure_cells v), h6, h7, h8]
    rw [ea] at e
    exact e
  · have es := ren_S3 hlow T w n (.sr 9 1 0 q.length)
    have key : ∀ (sel : List Nat) (obc : List Ob) (f : Nat → Nat), sel.length = obc.length → (∀ (i s : Nat) (X : Ob), sel[i]? = some s → obc[i]? = some X → ob[s]? = some (X.ren f) ∧ X ≠ .dead) → SelOk ob f sel obc := by
      intro sel
      induction sel with
      | nil => intro obc f h _; cases obc with
        | nil => trivial
        | cons => simp at h
      | cons s sel ih => intro obc f h k; cases obc with
        | nil => simp at h
        | cons X obc => exact ⟨k 0 s X rfl rfl, ih obc f (by simpa using h) fun i s X h1 h2 => k (i + 1) s X (by simpa using h1) (by simpa using h2)⟩
    refine key _ _ _ rfl fun i s X h1 h2 => ?_
    have hi : i < 10 := by have := (List.getElem?_eq_some_iff.1 h1).1; simpa using this
    by_cases h : i = 9
    · subst h
      have h1' : o = s := by simpa using h1
      have h2' : rp q = X := by simpa [E3, S3, st3] using h2
      subst h1'; subst h2'
      exact ⟨by rw [ho, ren_rp], by simp⟩
    · have hi' : i < 9 := by omega
      have hs : i = s := by
        have : ([0, 1, 2, 3, 4, 5, 6, 7, 8] : List Nat)[i]? = some s := by
          rw [← h1, show [0, 1, 2, 3, 4, 5, 6, 7, 8, o] = [0, 1, 2, 3, 4, 5, 6, 7, 8] ++ [o] from rfl, List.getElem?_append_left (by simpa using hi')]
        have h0 : ([0, 1, 2, 3, 4, 5, 6, 7, 8] : List Nat) = List.range 9 := rfl
        rw [h0, List.getElem?_range (by simpa using hi')] at this
        simpa using this
      subst hs
      have h2' : (S3 T w n (.sr 9 1 0 q.length))[i]? = some X := by rw [← h2]; exact (List.getElem?_append_left (by simpa [S3, st3] using hi')).symm
      refine ⟨?_, ?_⟩
      · have ho2 : ob[i]? = (S3 T w n (.sr o 1 0 q.length))[i]? := by rw [hob, List.getElem?_append_left (by simpa [S3, st3] using hi')]
        have := congrArg (fun l => l[i]?) es
        simp only [List.getElem?_map, h2', Option.map_some] at this
        exact ho2.trans this.symm
      · intro hd
        subst hd
        have : Ob.dead ∈ S3 T w n (.sr 9 1 0 q.length) := List.mem_of_getElem? h2'
        simp [S3, st3, lp3] at this
theorem liftl3 {T v : Tr} {w n n' : Int} {q : List Nat} (a b c : Ob) (W : ARet Tryz.prog 27 (aw (cells v)) (E3 T w n q) [] (B true) (E3 T w n' q)) :
    ARet Tryz.prog 27 (aw (cells v)) (S3 T w n (.sr 12 1 0 q.length) ++ [a, b, c, rp q]) [] (B true) (S3 T w n' (.sr 12 1 0 q.length) ++ [a, b, c, rp q]) := by
  have h := walk_lift W (o := 12) (tail := [a, b, c, rp q]) rfl rfl (by omega) (by simp [E3, S3, st3])
  rw [back_eq, map_E3 (o := 12) ⟨rfl, rfl, rfl, rfl, rfl, rfl, rfl, rfl, rfl⟩ rfl] at h
  exact h
theorem liftk3 {T v : Tr} {w n n' : Int} {q : List Nat} (a b c : Ob) (W : ARet Tryz.prog 27 (aw (cells v)) (E3 T w n q) [] (B true) (N3 T v w n' q)) :
    ARet Tryz.prog 27 (aw (cells v)) (S3 T w n (.sr 12 1 0 q.length) ++ [a, b, c, rp q]) [] (B true) (S3 T w n' (.sr 14 1 0 q.length) ++ [a, b, c, .dead, bx v, rp q]) := by
  have h := walk_lift W (o := 12) (tail := [a, b, c, rp q]) rfl rfl (by omega) (by simp [N3, S3, st3])
  rw [back_eq, map_N3 (o := 14) ⟨rfl, rfl, rfl, rfl, rfl, rfl, rfl, rfl, rfl⟩ rfl] at h
  exact h
theorem liftf3 {T v : Tr} {w n n' : Int} {q : List Nat} (a b c : Ob) (W : ARet Tryz.prog 27 (aw (cells v)) (E3 T w n q) [] (B false) (D4 T w n')) :
    ARet Tryz.prog 27 (aw (cells v)) (S3 T w n (.sr 12 1 0 q.length) ++ [a, b, c, rp q]) [] (B false) (D3 T w n' ex0 ++ [a, b, c, .dead]) := by
  have h := walk_lift W (o := 12) (tail := [a, b, c, rp q]) rfl rfl (by omega) (by simp [D4])
  rw [back_eq, map_D3 ⟨rfl, rfl, rfl, rfl, rfl, rfl, rfl, rfl, rfl⟩] at h
  exact h
theorem liftl4 {T v : Tr} {w n n' : Int} {q : List Nat} (a b c d : Ob) (W : ARet Tryz.prog 27 (aw (cells v)) (E3 T w n q) [] (B true) (E3 T w n' q)) :
    ARet Tryz.prog 27 (aw (cells v)) (S3 T w n (.sr 13 1 0 q.length) ++ [a, b, c, d, rp q]) [] (B true) (S3 T w n' (.sr 13 1 0 q.length) ++ [a, b, c, d, rp q]) := by
  have h := walk_lift W (o := 13) (tail := [a, b, c, d, rp q]) rfl rfl (by omega) (by simp [E3, S3, st3])
  rw [back_eq, map_E3 (o := 13) ⟨rfl, rfl, rfl, rfl, rfl, rfl, rfl, rfl, rfl⟩ rfl] at h
  exact h
theorem liftk4 {T v : Tr} {w n n' : Int} {q : List Nat} (a b c d : Ob) (W : ARet Tryz.prog 27 (aw (cells v)) (E3 T w n q) [] (B true) (N3 T v w n' q)) :
    ARet Tryz.prog 27 (aw (cells v)) (S3 T w n (.sr 13 1 0 q.length) ++ [a, b, c, d, rp q]) [] (B true) (S3 T w n' (.sr 15 1 0 q.length) ++ [a, b, c, d, .dead, bx v, rp q]) := by
  have h := walk_lift W (o := 13) (tail := [a, b, c, d, rp q]) rfl rfl (by omega) (by simp [N3, S3, st3])
  rw [back_eq, map_N3 (o := 15) ⟨rfl, rfl, rfl, rfl, rfl, rfl, rfl, rfl, rfl⟩ rfl] at h
  exact h
theorem liftf4 {T v : Tr} {w n n' : Int} {q : List Nat} (a b c d : Ob) (W : ARet Tryz.prog 27 (aw (cells v)) (E3 T w n q) [] (B false) (D4 T w n')) :
    ARet Tryz.prog 27 (aw (cells v)) (S3 T w n (.sr 13 1 0 q.length) ++ [a, b, c, d, rp q]) [] (B false) (D3 T w n' ex0 ++ [a, b, c, d, .dead]) := by
  have h := walk_lift W (o := 13) (tail := [a, b, c, d, rp q]) rfl rfl (by omega) (by simp [D4])
  rw [back_eq, map_D3 ⟨rfl, rfl, rfl, rfl, rfl, rfl, rfl, rfl, rfl⟩] at h
  exact h
theorem liftl5 {T v : Tr} {w n n' : Int} {q : List Nat} (a b c d e : Ob) (W : ARet Tryz.prog 27 (aw (cells v)) (E3 T w n q) [] (B true) (E3 T w n' q)) :
    ARet Tryz.prog 27 (aw (cells v)) (S3 T w n (.sr 14 1 0 q.length) ++ [a, b, c, d, e, rp q]) [] (B true) (S3 T w n' (.sr 14 1 0 q.length) ++ [a, b, c, d, e, rp q]) := by
  have h := walk_lift W (o := 14) (tail := [a, b, c, d, e, rp q]) rfl rfl (by omega) (by simp [E3, S3, st3])
  rw [back_eq, map_E3 (o := 14) ⟨rfl, rfl, rfl, rfl, rfl, rfl, rfl, rfl, rfl⟩ rfl] at h
  exact h
theorem liftk5 {T v : Tr} {w n n' : Int} {q : List Nat} (a b c d e : Ob) (W : ARet Tryz.prog 27 (aw (cells v)) (E3 T w n q) [] (B true) (N3 T v w n' q)) :
    ARet Tryz.prog 27 (aw (cells v)) (S3 T w n (.sr 14 1 0 q.length) ++ [a, b, c, d, e, rp q]) [] (B true) (S3 T w n' (.sr 16 1 0 q.length) ++ [a, b, c, d, e, .dead, bx v, rp q]) := by
  have h := walk_lift W (o := 14) (tail := [a, b, c, d, e, rp q]) rfl rfl (by omega) (by simp [N3, S3, st3])
  rw [back_eq, map_N3 (o := 16) ⟨rfl, rfl, rfl, rfl, rfl, rfl, rfl, rfl, rfl⟩ rfl] at h
  exact h
theorem liftf5 {T v : Tr} {w n n' : Int} {q : List Nat} (a b c d e : Ob) (W : ARet Tryz.prog 27 (aw (cells v)) (E3 T w n q) [] (B false) (D4 T w n')) :
    ARet Tryz.prog 27 (aw (cells v)) (S3 T w n (.sr 14 1 0 q.length) ++ [a, b, c, d, e, rp q]) [] (B false) (D3 T w n' ex0 ++ [a, b, c, d, e, .dead]) := by
  have h := walk_lift W (o := 14) (tail := [a, b, c, d, e, rp q]) rfl rfl (by omega) (by simp [D4])
  rw [back_eq, map_D3 ⟨rfl, rfl, rfl, rfl, rfl, rfl, rfl, rfl, rfl⟩] at h
  exact h
theorem told_cut (p : List Nat) (i : Nat) : Am.Told (rp (p ++ [i])) (rp p) := by
  have := Am.Told.row (T := 3) (S := 1) (k := p.length) (rows := rowsI (p ++ [i])) (by rw [rowsI_len, List.length_append]; omega)
  rwa [rowsI_snoc, List.take_append_of_le_length (by rw [rowsI_len]; exact Nat.le_refl _), List.take_of_length_le (by rw [rowsI_len]; exact Nat.le_refl _), ← rowsI_snoc] at this
theorem take_all (p : List Nat) : List.take p.length (rowsI p) = rowsI p := List.take_of_length_le (by rw [rowsI_len]; exact Nat.le_refl _)
theorem d_dec (k : Nat) (h : k ≤ 100000) : dec (IntKind.wrap IntKind.i64 ((↑(k + 1) : Int) - 1) = (↑k : Int)) = true := dec_true.2 (by rw [wrap64 (by omega) (by omega)]; omega)
theorem d_app (p : List Nat) (h : p.length ≤ 100000) : (Nat.ble p.length (rowsI p).length && true && (Nat.ble ((p.length + 1) * 8) 140737488355328 && Nat.ble (p.length + 1) 9223372036854775807 && true)) = true :=
  andt (andt (nle (by rw [rowsI_len]; exact Nat.le_refl _)) rfl) (andt (andt (nle (by omega)) (nle (by omega))) rfl)
def lwS (l : List Tr) (i : Int) : List (Option AV) := [some (.pt 6 0), some (.pt 7 0), some (.pt 8 0), some (.sl 7 (rowsT l)), some (I (rowsT l).length), some (I i)]
theorem ren_lw {f : Nat → Nat} (h : Low f) (l : List Tr) (i : Nat) : renL f (lw (rowsT l) i) = lwS l i := by
  obtain ⟨-, -, -, -, -, -, h6, h7, h8⟩ := h
  simp [renL, lw, lwS, AV.ren, renRows_pure _ _ (pure_rowsT l), h6, h7, h8]
theorem pieceBl {T y v : Tr} {w n n' : Int} {p : List Nat} {l : List Tr} {i : Nat} (hp : p.length ≤ 100000) (hl : l.length ≤ 100000) (hv : l[i]? = some v) (W : ARet Tryz.prog 27 (aw (cells v)) (E3 T w n (p ++ [i])) [] (B true) (E3 T w n' (p ++ [i]))) :
    Piece Tryz.prog 36 10 c27 (lw (rowsT l) i) (B3 T y w n p) .normal (lw (rowsT l) (i + 1)) (N3 T y w n' p) := by
  have hil : i < l.length := (List.getElem?_eq_some_iff.1 hv).1
  have hW := liftl4 .dead (bx y) (bx v) (ro i) W
  rw [List.length_append] at hW
  obtain ⟨k2, r2, a2, tok2, ty2, op2, l2⟩ := v
  refine pieceL (knownS_ok (fret_of rfl hW) base_ok) mixed (stepBl k2 r2 a2 tok2 ty2 op2 (rowsT l2) (cells T) (spots (pre [] T)) w n n' (cells y) (rowsI p) p.length (rowsI (p ++ [i])) (rowsT l) i) ?_ rfl rfl rfl (ren_lw ⟨rfl, rfl, rfl, rfl, rfl, rfl, rfl, rfl, rfl⟩ l (i + 1)) ?_
  · exact ac (dinc1 hil (by omega)) (ac (andt (nle (Nat.le_succ _)) rfl) (ac (d_dec _ hp) (ac (dz ⟨rfl, by rw [take_all, ← rowsI_snoc]⟩) (ac (d_app p hp) (ac (d_rowT hv) (ac (ylt (by rw [rowsT_len]; exact hil)) rfl))))))
  · exact toldL_app (f := fsel [0, 1, 2, 3, 4, 5, 6, 7, 8, 9, 10, 13] 14) (A := S3 T w n' (.sr 13 1 0 p.length)) (Z := [.dead, bx y, rp (p ++ [i])].map some) (Z' := [.dead, bx y, rp p]) ⟨.same _, by rw [ren_bx]; exact .same _, by rw [ren_rp]; exact told_cut p i, trivial⟩ (ren_S3 ⟨rfl, rfl, rfl, rfl, rfl, rfl, rfl, rfl, rfl⟩ _ _ _ _)
theorem pieceBk {T y v : Tr} {w n n' : Int} {p : List Nat} {l : List Tr} {i : Nat} (hp : p.length ≤ 100000) (hl : l.length ≤ 100000) (hv : l[i]? = some v) (W : ARet Tryz.prog 27 (aw (cells v)) (E3 T w n (p ++ [i])) [] (B true) (N3 T v w n' (p ++ [i]))) :
    Piece Tryz.prog 36 10 c27 (lw (rowsT l) i) (B3 T y w n p) .normal (lw (rowsT l) (i + 1)) (N3 T y w n' p) := by
  have hil : i < l.length := (List.getElem?_eq_some_iff.1 hv).1
  have hW := liftk4 .dead (bx y) (bx v) (ro i) W
  rw [List.length_append] at hW
  obtain ⟨k2, r2, a2, tok2, ty2, op2, l2⟩ := v
  refine pieceL (knownS_ok (fret_of rfl hW) base_ok) mixed (stepBk k2 r2 a2 tok2 ty2 op2 (rowsT l2) (cells T) (spots (pre [] T)) w n n' (cells y) (rowsI p) p.length (rowsI (p ++ [i])) (rowsT l) i) ?_ rfl rfl rfl (ren_lw ⟨rfl, rfl, rfl, rfl, rfl, rfl, rfl, rfl, rfl⟩ l (i + 1)) ?_
  · exact ac (dinc1 hil (by omega)) (ac (andt (nle (Nat.le_succ _)) rfl) (ac (d_dec _ hp) (ac (dz ⟨rfl, by rw [take_all, ← rowsI_snoc]⟩) (ac (d_app p hp) (ac (d_rowT hv) (ac (ylt (by rw [rowsT_len]; exact hil)) rfl))))))
  · exact toldL_app (f := fsel [0, 1, 2, 3, 4, 5, 6, 7, 8, 9, 10, 15] 16) (A := S3 T w n' (.sr 15 1 0 p.length)) (Z := [.dead, bx y, rp (p ++ [i])].map some) (Z' := [.dead, bx y, rp p]) ⟨.same _, by rw [ren_bx]; exact .same _, by rw [ren_rp]; exact told_cut p i, trivial⟩ (ren_S3 ⟨rfl, rfl, rfl, rfl, rfl, rfl, rfl, rfl, rfl⟩ _ _ _ _)
theorem stopB {T y v : Tr} {w n n' : Int} {p : List Nat} {l : List Tr} {i : Nat} (hp : p.length ≤ 100000) (hv : l[i]? = some v) (W : ARet Tryz.prog 27 (aw (cells v)) (E3 T w n (p ++ [i])) [] (B false) (D4 T w n')) :
    Brk Tryz.prog Tryz.f27 10 (fun e o => e = .ret (B false) ∧ ∃ xs, o = D4 T w n' ++ xs) 0 c27 tl27 (lw (rowsT l) i) (B3 T y w n p) := by
  have hil : i < l.length := (List.getElem?_eq_some_iff.1 hv).1
  have hW := liftf4 .dead (bx y) (bx v) (ro i) W
  rw [List.length_append] at hW
  obtain ⟨k2, r2, a2, tok2, ty2, op2, l2⟩ := v
  refine brk_rets (rets_run (obs := D4 T w n') (knownS_ok (fret_of rfl hW) base_ok) mixed (stepBf k2 r2 a2 tok2 ty2 op2 (rowsT l2) (cells T) (spots (pre [] T)) w n n' (cells y) (rowsI p) p.length (rowsI (p ++ [i])) (rowsT l) i) ?_ rfl fun xs => ⟨rfl, xs, rfl⟩)
  exact ac (dz ⟨rfl, by rw [take_all, ← rowsI_snoc]⟩) (ac (d_app p hp) (ac (d_rowT hv) (ac (ylt (by rw [rowsT_len]; exact hil)) rfl)))
theorem pieceNl {T y v : Tr} {w n n' : Int} {p : List Nat} {l : List Tr} {i : Nat} (hp : p.length ≤ 100000) (hl : l.length ≤ 100000) (hv : l[i]? = some v) (W : ARet Tryz.prog 27 (aw (cells v)) (E3 T w n (p ++ [i])) [] (B true) (E3 T w n' (p ++ [i]))) :
    Piece Tryz.prog 36 10 c27 (lw (rowsT l) i) (N3 T y w n p) .normal (lw (rowsT l) (i + 1)) (N3 T y w n' p) := by
  have hil : i < l.length := (List.getElem?_eq_some_iff.1 hv).1
  have hW := liftl5 .dead (bx y) .dead (bx v) (ro i) W
  rw [List.length_append] at hW
  obtain ⟨k2, r2, a2, tok2, ty2, op2, l2⟩ := v
  refine pieceL (knownS_ok (fret_of rfl hW) base_ok) mixed (stepNl k2 r2 a2 tok2 ty2 op2 (rowsT l2) (cells T) (spots (pre [] T)) w n n' (cells y) (rowsI p) p.length (rowsI (p ++ [i])) (rowsT l) i) ?_ rfl rfl rfl (ren_lw ⟨rfl, rfl, rfl, rfl, rfl, rfl, rfl, rfl, rfl⟩ l (i + 1)) ?_
  · exact ac (dinc1 hil (by omega)) (ac (andt (nle (Nat.le_succ _)) rfl) (ac (d_dec _ hp) (ac (dz ⟨rfl, by rw [take_all, ← rowsI_snoc]⟩) (ac (d_app p hp) (ac (d_rowT hv) (ac (ylt (by rw [rowsT_len]; exact hil)) rfl))))))
  · exact toldL_app (f := fsel [0, 1, 2, 3, 4, 5, 6, 7, 8, 9, 10, 14] 15) (A := S3 T w n' (.sr 14 1 0 p.length)) (Z := [.dead, bx y, rp (p ++ [i])].map some) (Z' := [.dead, bx y, rp p]) ⟨.same _, by rw [ren_bx]; exact .same _, by rw [ren_rp]; exact told_cut p i, trivial⟩ (ren_S3 ⟨rfl, rfl, rfl, rfl, rfl, rfl, rfl, rfl, rfl⟩ _ _ _ _)
theorem pieceNk {T y v : Tr} {w n n' : Int} {p : List Nat} {l : List Tr} {i : Nat} (hp : p.length ≤ 100000) (hl : l.length ≤ 100000) (hv : l[i]? = some v) (W : ARet Tryz.prog 27 (aw (cells v)) (E3 T w n (p ++ [i])) [] (B true) (N3 T v w n' (p ++ [i]))) :
    Piece Tryz.prog 36 10 c27 (lw (rowsT l) i) (N3 T y w n p) .normal (lw (rowsT l) (i + 1)) (N3 T y w n' p) := by
  have hil : i < l.length := (List.getElem?_eq_some_iff.1 hv).1
  have hW := liftk5 .dead (bx y) .dead (bx v) (ro i) W
  rw [List.length_append] at hW
  obtain ⟨k2, r2, a2, tok2, ty2, op2, l2⟩ := v
  refine pieceL (knownS_ok (fret_of rfl hW) base_ok) mixed (stepNk k2 r2 a2 tok2 ty2 op2 (rowsT l2) (cells T) (spots (pre [] T)) w n n' (cells y) (rowsI p) p.length (rowsI (p ++ [i])) (rowsT l) i) ?_ rfl rfl rfl (ren_lw ⟨rfl, rfl, rfl, rfl, rfl, rfl, rfl, rfl, rfl⟩ l (i + 1)) ?_
  · exact ac (dinc1 hil (by omega)) (ac (andt (nle (Nat.le_succ _)) rfl) (ac (d_dec _ hp) (ac (dz ⟨rfl, by rw [take_all, ← rowsI_snoc]⟩) (ac (d_app p hp) (ac (d_rowT hv) (ac (ylt (by rw [rowsT_len]; exact hil)) rfl))))))
  · exact toldL_app (f := fsel [0, 1, 2, 3, 4, 5, 6, 7, 8, 9, 10, 16] 17) (A := S3 T w n' (.sr 16 1 0 p.length)) (Z := [.dead, bx y, rp (p ++ [i])].map some) (Z' := [.dead, bx y, rp p]) ⟨.same _, by rw [ren_bx]; exact .same _, by rw [ren_rp]; exact told_cut p i, trivial⟩ (ren_S3 ⟨rfl, rfl, rfl, rfl, rfl, rfl, rfl, rfl, rfl⟩ _ _ _ _)
theorem stopN {T y v : Tr} {w n n' : Int} {p : List Nat} {l : List Tr} {i : Nat} (hp : p.length ≤ 100000) (hv : l[i]? = some v) (W : ARet Tryz.prog 27 (aw (cells v)) (E3 T w n (p ++ [i])) [] (B false) (D4 T w n')) :
    Brk Tryz.prog Tryz.f27 10 (fun e o => e = .ret (B false) ∧ ∃ xs, o = D4 T w n' ++ xs) 0 c27 tl27 (lw (rowsT l) i) (N3 T y w n p) := by
  have hil : i < l.length := (List.getElem?_eq_some_iff.1 hv).1
  have hW := liftf5 .dead (bx y) .dead (bx v) (ro i) W
  rw [List.length_append] at hW
  obtain ⟨k2, r2, a2, tok2, ty2, op2, l2⟩ := v
  refine brk_rets (rets_run (obs := D4 T w n') (knownS_ok (fret_of rfl hW) base_ok) mixed (stepNf k2 r2 a2 tok2 ty2 op2 (rowsT l2) (cells T) (spots (pre [] T)) w n n' (cells y) (rowsI p) p.length (rowsI (p ++ [i])) (rowsT l) i) ?_ rfl fun xs => ⟨rfl, xs, rfl⟩)
  exact ac (dz ⟨rfl, by rw [take_all, ← rowsI_snoc]⟩) (ac (d_app p hp) (ac (d_rowT hv) (ac (ylt (by rw [rowsT_len]; exact hil)) rfl)))
theorem pieceAl {T y v : Tr} {w n n' : Int} {l : List Tr} {i : Nat} (hl : l.length ≤ 100000) (hv : l[i]? = some v) (W : ARet Tryz.prog 27 (aw (cells v)) (E3 T w n [i]) [] (B true) (E3 T w n' [i])) :
    Piece Tryz.prog 36 9 c27 (lw (rowsT l) i) (A3 T y w n) .normal (lw (rowsT l) (i + 1)) (R3 T y w n') := by
  have hil : i < l.length := (List.getElem?_eq_some_iff.1 hv).1
  have hW := liftl3 (bx y) (bx v) (ro i) W
  obtain ⟨k2, r2, a2, tok2, ty2, op2, l2⟩ := v
  refine pieceL (knownS_ok (fret_of rfl hW) base_ok) mixed (stepAl k2 r2 a2 tok2 ty2 op2 (rowsT l2) (cells T) (spots (pre [] T)) w n n' (cells y) (rowsT l) i) ?_ rfl rfl rfl (ren_lw ⟨rfl, rfl, rfl, rfl, rfl, rfl, rfl, rfl, rfl⟩ l (i + 1)) ?_
  · exact ac (dinc1 hil (by omega)) (ac rfl (ac (dz rfl) (ac (dz ⟨rfl, rfl⟩) (ac rfl (ac (d_rowT hv) (ac (ylt (by rw [rowsT_len]; exact hil)) rfl))))))
  · exact toldL_app (f := fsel [0, 1, 2, 3, 4, 5, 6, 7, 8, 9, 12] 13) (A := S3 T w n' (.sr 12 1 0 0)) (Z := [bx y, rp [i]].map some) (Z' := [bx y, rp []]) ⟨by rw [ren_bx]; exact .same _, by rw [ren_rp]; exact told_cut [] i, trivial⟩ (ren_S3 ⟨rfl, rfl, rfl, rfl, rfl, rfl, rfl, rfl, rfl⟩ _ _ _ _)
theorem pieceAk {T y v : Tr} {w n n' : Int} {l : List Tr} {i : Nat} (hl : l.length ≤ 100000) (hv : l[i]? = some v) (W : ARet Tryz.prog 27 (aw (cells v)) (E3 T w n [i]) [] (B true) (N3 T v w n' [i])) :
    Piece Tryz.prog 36 9 c27 (lw (rowsT l) i) (A3 T y w n) .normal (lw (rowsT l) (i + 1)) (R3 T y w n') := by
  have hil : i < l.length := (List.getElem?_eq_some_iff.1 hv).1
  have hW := liftk3 (bx y) (bx v) (ro i) W
  obtain ⟨k2, r2, a2, tok2, ty2, op2, l2⟩ := v
  refine pieceL (knownS_ok (fret_of rfl hW) base_ok) mixed (stepAk k2 r2 a2 tok2 ty2 op2 (rowsT l2) (cells T) (spots (pre [] T)) w n n' (cells y) (rowsT l) i) ?_ rfl rfl rfl (ren_lw ⟨rfl, rfl, rfl, rfl, rfl, rfl, rfl, rfl, rfl⟩ l (i + 1)) ?_
  · exact ac (dinc1 hil (by omega)) (ac rfl (ac (dz rfl) (ac (dz ⟨rfl, rfl⟩) (ac rfl (ac (d_rowT hv) (ac (ylt (by rw [rowsT_len]; exact hil)) rfl))))))
  · exact toldL_app (f := fsel [0, 1, 2, 3, 4, 5, 6, 7, 8, 9, 14] 15) (A := S3 T w n' (.sr 14 1 0 0)) (Z := [bx y, rp [i]].map some) (Z' := [bx y, rp []]) ⟨by rw [ren_bx]; exact .same _, by rw [ren_rp]; exact told_cut [] i, trivial⟩ (ren_S3 ⟨rfl, rfl, rfl, rfl, rfl, rfl, rfl, rfl, rfl⟩ _ _ _ _)
theorem stopA {T y v : Tr} {w n n' : Int} {l : List Tr} {i : Nat} (hv : l[i]? = some v) (W : ARet Tryz.prog 27 (aw (cells v)) (E3 T w n [i]) [] (B false) (D4 T w n')) :
    Brk Tryz.prog Tryz.f27 9 (fun e o => e = .ret (B false) ∧ ∃ xs, o = D3 T w n' ex0 ++ xs) 0 c27 tl27 (lw (rowsT l) i) (A3 T y w n) := by
  have hil : i < l.length := (List.getElem?_eq_some_iff.1 hv).1
  have hW := liftf3 (bx y) (bx v) (ro i) W
  obtain ⟨k2, r2, a2, tok2, ty2, op2, l2⟩ := v
  refine brk_rets (rets_run (obs := D3 T w n' ex0) (knownS_ok (fret_of rfl hW) base_ok) mixed (stepAf k2 r2 a2 tok2 ty2 op2 (rowsT l2) (cells T) (spots (pre [] T)) w n n' (cells y) (rowsT l) i) ?_ rfl fun xs => ⟨rfl, xs, rfl⟩)
  exact ac (dz ⟨rfl, rfl⟩) (ac rfl (ac (d_rowT hv) (ac (ylt (by rw [rowsT_len]; exact hil)) rfl)))
theorem pieceRl {T y v : Tr} {w n n' : Int} {l : List Tr} {i : Nat} (hl : l.length ≤ 100000) (hv : l[i]? = some v) (W : ARet Tryz.prog 27 (aw (cells v)) (E3 T w n [i]) [] (B true) (E3 T w n' [i])) :
    Piece Tryz.prog 36 9 c27 (lw (rowsT l) i) (R3 T y w n) .normal (lw (rowsT l) (i + 1)) (R3 T y w n') := by
  have hil : i < l.length := (List.getElem?_eq_some_iff.1 hv).1
  have hW := liftl4 (bx y) .dead (bx v) (ro i) W
  obtain ⟨k2, r2, a2, tok2, ty2, op2, l2⟩ := v
  refine pieceL (knownS_ok (fret_of rfl hW) base_ok) mixed (stepRl k2 r2 a2 tok2 ty2 op2 (rowsT l2) (cells T) (spots (pre [] T)) w n n' (cells y) (rowsT l) i) ?_ rfl rfl rfl (ren_lw ⟨rfl, rfl, rfl, rfl, rfl, rfl, rfl, rfl, rfl⟩ l (i + 1)) ?_
  · exact ac (dinc1 hil (by omega)) (ac rfl (ac (dz rfl) (ac (dz ⟨rfl, rfl⟩) (ac rfl (ac (d_rowT hv) (ac (ylt (by rw [rowsT_len]; exact hil)) rfl))))))
  · exact toldL_app (f := fsel [0, 1, 2, 3, 4, 5, 6, 7, 8, 9, 13] 14) (A := S3 T w n' (.sr 13 1 0 0)) (Z := [bx y, rp [i]].map some) (Z' := [bx y, rp []]) ⟨by rw [ren_bx]; exact .same _, by rw [ren_rp]; exact told_cut [] i, trivial⟩ (ren_S3 ⟨rfl, rfl, rfl, rfl, rfl, rfl, rfl, rfl, rfl⟩ _ _ _ _)
theorem pieceRk {T y v : Tr} {w n n' : Int} {l : List Tr} {i : Nat} (hl : l.length ≤ 100000) (hv : l[i]? = some v) (W : ARet Tryz.prog 27 (aw (cells v)) (E3 T w n [i]) [] (B true) (N3 T v w n' [i])) :
    Piece Tryz.prog 36 9 c27 (lw (rowsT l) i) (R3 T y w n) .normal (lw (rowsT l) (i + 1)) (R3 T y w n') := by
  have hil : i < l.length := (List.getElem?_eq_some_iff.1 hv).1
  have hW := liftk4 (bx y) .dead (bx v) (ro i) W
  obtain ⟨k2, r2, a2, tok2, ty2, op2, l2⟩ := v
  refine pieceL (knownS_ok (fret_of rfl hW) base_ok) mixed (stepRk k2 r2 a2 tok2 ty2 op2 (rowsT l2) (cells T) (spots (pre [] T)) w n n' (cells y) (rowsT l) i) ?_ rfl rfl rfl (ren_lw ⟨rfl, rfl, rfl, rfl, rfl, rfl, rfl, rfl, rfl⟩ l (i + 1)) ?_
  · exact ac (dinc1 hil (by omega)) (ac rfl (ac (dz rfl) (ac (dz ⟨rfl, rfl⟩) (ac rfl (ac (d_rowT hv) (ac (ylt (by rw [rowsT_len]; exact hil)) rfl))))))
  · exact toldL_app (f := fsel [0, 1, 2, 3, 4, 5, 6, 7, 8, 9, 15] 16) (A := S3 T w n' (.sr 15 1 0 0)) (Z := [bx y, rp [i]].map some) (Z' := [bx y, rp []]) ⟨by rw [ren_bx]; exact .same _, by rw [ren_rp]; exact told_cut [] i, trivial⟩ (ren_S3 ⟨rfl, rfl, rfl, rfl, rfl, rfl, rfl, rfl, rfl⟩ _ _ _ _)
theorem stopR {T y v : Tr} {w n n' : Int} {l : List Tr} {i : Nat} (hv : l[i]? = some v) (W : ARet Tryz.prog 27 (aw (cells v)) (E3 T w n [i]) [] (B false) (D4 T w n')) :
    Brk Tryz.prog Tryz.f27 9 (fun e o => e = .ret (B false) ∧ ∃ xs, o = D3 T w n' ex0 ++ xs) 0 c27 tl27 (lw (rowsT l) i) (R3 T y w n) := by
  have hil : i < l.length := (List.getElem?_eq_some_iff.1 hv).1
  have hW := liftf4 (bx y) .dead (bx v) (ro i) W
  obtain ⟨k2, r2, a2, tok2, ty2, op2, l2⟩ := v
  refine brk_rets (rets_run (obs := D3 T w n' ex0) (knownS_ok (fret_of rfl hW) base_ok) mixed (stepRf k2 r2 a2 tok2 ty2 op2 (rowsT l2) (cells T) (spots (pre [] T)) w n n' (cells y) (rowsT l) i) ?_ rfl fun xs => ⟨rfl, xs, rfl⟩)
  exact ac (dz ⟨rfl, rfl⟩) (ac rfl (ac (d_rowT hv) (ac (ylt (by rw [rowsT_len]; exact hil)) rfl)))
end Go.Proofs.YtobehholoenaiaaGreatDoor
