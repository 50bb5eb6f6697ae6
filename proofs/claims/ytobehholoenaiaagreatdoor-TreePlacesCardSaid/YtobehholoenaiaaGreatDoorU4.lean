/- All places in order, as the document tells them: ref24.All. -/
import Derived.Test.YtobehholoenaiaaGreatDoorU3
namespace Go.Proofs.YtobehholoenaiaaGreatDoor
open Go.Am
noncomputable def bl25 : Code := match sq1 (sq2 (lpD 25)) with
  | .block _ c => c
  | c => c
noncomputable def call25 (kc : List AV) (q S S' : List (List AV)) (n n' : Nat) (u : List AV) : CallF := knownS 25 [.ag kc, .sl 1 q, .sr 2 8 0 n] [.dead, .box 25 u, .row 42 8 S, .dead] (.sr 5 8 0 n') [.dead, .box 25 u, .dead, .dead, .dead, .row 42 8 S'] base
theorem h25n (k r a tok ty : Int) (op : Bool) (R : List (List AV)) (p : List (List AV)) : outR [1, 2, 3, 7] [1, 0, 2] (runL Tryz.prog 37 base noPu 3000 (hdD 25 ++ [hD 25]) (argT 0 [.ag (cl k r a tok ty op R), .sl 1 p, nilS] .e) .e 0 ⟨0, [.b true], []⟩) =
    some (AX.normal, [some (AV.sl 1 p), some (AV.sr 2 8 0 1), some (AV.pt 0 0), some (I 0)], [some (Ob.row 42 8 [[AV.sl 1 p, AV.v (Value.int IntKind.i8 k), I r, I a, I tok, I ty, B op, AV.sl 7 R]]), some (Ob.box 25 [AV.v (Value.int IntKind.i8 k), I r, I a, I tok, I ty, B op, AV.sl 7 R]), some (Ob.row 42 8 [[AV.sl 1 p, AV.v (Value.int IntKind.i8 k), I r, I a, I tok, I ty, B op, AV.sl 7 R]])], 3, [true]) := by kernel_rfl
theorem h25r (k r a tok ty : Int) (op : Bool) (R : List (List AV)) (p : List (List AV)) (S : List (List AV)) (n : Nat) : outR [1, 2, 3, 7] [0, 1, 3] (runL Tryz.prog 37 base noPu 3000 (hdD 25 ++ [hD 25]) (argT 0 [.ag (cl k r a tok ty op R), .sl 1 p, .sr 0 8 0 n] .e) (triO [.row 42 8 S]) 1 ⟨0, [.b true], []⟩) =
    some (AX.normal, [some (AV.sl 1 p), some (AV.sr 3 8 0 (n + 1)), some (AV.pt 1 0), some (I 0)], [some Ob.dead, some (Ob.box 25 [AV.v (Value.int IntKind.i8 k), I r, I a, I tok, I ty, B op, AV.sl 7 R]), some (Ob.row 42 8 (List.take n S ++ [[AV.sl 1 p, AV.v (Value.int IntKind.i8 k), I r, I a, I tok, I ty, B op, AV.sl 7 R]]))], 4, [Nat.ble n (List.length S) && true && (Nat.ble ((n + 1) * 96) 140737488355328 && Nat.ble (n + 1) 9223372036854775807 && true)]) := by kernel_rfl
theorem r25a (k r a tok ty : Int) (op : Bool) (R : List (List AV)) (p : List (List AV)) (S : List (List AV)) (n z : Nat) : outR [1, 2, 3, 7] [0, 1, 2] (runCode Tryz.prog 37 base noPu 3000 (sq1 (lpD 25)) (triM [(1, .sl 1 p), (2, .sr 2 8 0 n), (3, .pt 1 0), (7, I z)]) (triO [.dead, .box 25 (cl k r a tok ty op R), .row 42 8 S]) 3 ⟨3, [.b true, .b true], []⟩) =
    some (AX.normal, [some (AV.sl 1 p), some (AV.sr 2 8 0 n), some (AV.pt 1 0), some (I (↑z : Int))], [some Ob.dead, some (Ob.box 25 [AV.v (Value.int IntKind.i8 k), I r, I a, I tok, I ty, B op, AV.sl 7 R]), some (Ob.row 42 8 S)], 3, [decide ((↑z : Int) < (↑(List.length R) : Int))]) := by kernel_rfl
theorem r25x (k r a tok ty : Int) (op : Bool) (R : List (List AV)) (p : List (List AV)) (S : List (List AV)) (n z : Nat) : outR [1, 2, 3, 7] [0, 1, 2] (runCode Tryz.prog 37 base noPu 3000 (sq1 (lpD 25)) (triM [(1, .sl 1 p), (2, .sr 2 8 0 n), (3, .pt 1 0), (7, I z)]) (triO [.dead, .box 25 (cl k r a tok ty op R), .row 42 8 S]) 3 ⟨3, [.b false, .b true], []⟩) =
    some (AX.exit 0, [some (AV.sl 1 p), some (AV.sr 2 8 0 n), some (AV.pt 1 0), some (I (↑z : Int))], [some Ob.dead, some (Ob.box 25 [AV.v (Value.int IntKind.i8 k), I r, I a, I tok, I ty, B op, AV.sl 7 R]), some (Ob.row 42 8 S)], 3, [!decide ((↑z : Int) < (↑(List.length R) : Int))]) := by kernel_rfl
theorem r25m (k r a tok ty : Int) (op : Bool) (R : List (List AV)) (p S : List (List AV)) (n z : Nat) : outR [1, 2, 3, 7, 8] [0, 1, 2] (runCode Tryz.prog 37 base noPu 3000 (sq1 bl25) (triM [(1, .sl 1 p), (2, .sr 2 8 0 n), (3, .pt 1 0), (7, I z)]) (triO [.dead, .box 25 (cl k r a tok ty op R), .row 42 8 S]) 3 ⟨3, [.b true], []⟩) =
    some (AX.normal, [some (AV.sl 1 p), some (AV.sr 2 8 0 n), some (AV.pt 1 0), some (I (↑z : Int)), some (AV.v (Value.slice none 0 0))], [some Ob.dead, some (Ob.box 25 [AV.v (Value.int IntKind.i8 k), I r, I a, I tok, I ty, B op, AV.sl 7 R]), some (Ob.row 42 8 S)], 3, []) := by kernel_rfl
theorem r25b0 (k r a tok ty : Int) (op : Bool) (R : List (List AV)) (S : List (List AV)) (n z : Nat) : outR [1, 2, 3, 7, 8] [0, 1, 2, 5] (runCode Tryz.prog 37 base noPu 3000 (sq1 (sq2 bl25)) (triM [(1, .sl 1 []), (2, .sr 2 8 0 n), (3, .pt 1 0), (7, I z), (8, nilS)]) (triO [.dead, .box 25 (cl k r a tok ty op R), .row 42 8 S]) 3 ⟨3, [.b true], []⟩) =
    some (AX.normal, [some (AV.sl 1 []), some (AV.sr 2 8 0 n), some (AV.pt 1 0), some (I (↑z : Int)), some (AV.sr 5 1 0 1)], [some Ob.dead, some (Ob.box 25 [AV.v (Value.int IntKind.i8 k), I r, I a, I tok, I ty, B op, AV.sl 7 R]), some (Ob.row 42 8 S), some (Ob.row 3 1 [[I (↑z : Int)]])], 6, [true, true]) := by kernel_rfl
theorem r25b1 (k r a tok ty : Int) (op : Bool) (R : List (List AV)) (x : List AV) (p : List (List AV)) (S : List (List AV)) (n z : Nat) : outR [1, 2, 3, 7, 8] [0, 1, 2, 5] (runCode Tryz.prog 37 base noPu 3000 (sq1 (sq2 bl25)) (triM [(1, .sl 1 (x :: p)), (2, .sr 2 8 0 n), (3, .pt 1 0), (7, I z), (8, nilS)]) (triO [.dead, .box 25 (cl k r a tok ty op R), .row 42 8 S]) 3 ⟨3, [.b true], []⟩) =
    some (AX.normal, [some (AV.sl 1 (x :: p)), some (AV.sr 2 8 0 n), some (AV.pt 1 0), some (I (↑z : Int)), some (AV.sr 5 1 0 (0 + List.length (x :: p) + 1))], [some Ob.dead, some (Ob.box 25 [AV.v (Value.int IntKind.i8 k), I r, I a, I tok, I ty, B op, AV.sl 7 R]), some (Ob.row 42 8 S), some (Ob.row 3 1 (List.take (0 + List.length (x :: p)) (x :: p) ++ [[I (↑z : Int)]]))], 6, [Nat.ble (0 + List.length (x :: p)) (List.length (x :: p)) && true && (Nat.ble ((0 + List.length (x :: p) + 1) * 8) 140737488355328 && Nat.ble (0 + List.length (x :: p) + 1) 9223372036854775807 && true), rowsOne (x :: p) && Nat.ble ((0 + List.length (x :: p)) * 8) 140737488355328 && Nat.ble (0 + List.length (x :: p)) 9223372036854775807 && true]) := by kernel_rfl
theorem r25l (p : List (List AV)) (S : List (List AV)) (n z : Nat) : lastC Tryz.prog [.tmp 6] 3 (runCode Tryz.prog 37 base noPu 3000 (tlD 25) (triM [(1, .sl 1 p), (2, .sr 2 8 0 n), (3, .pt 1 0), (7, I z)]) (triO [.dead, .dead, .row 42 8 S]) 3 ⟨3, [.b true], []⟩) =
    some (AV.sr 2 8 0 n, [some Ob.dead, some Ob.dead, some (Ob.row 42 8 S)], []) := by kernel_rfl
theorem r25i (p : List (List AV)) (n z : Nat) (A B C : Ob) : outR [1, 2, 3, 7] [0, 1, 2] (runCode Tryz.prog 37 base noPu 3000 (sq2 (sq2 (lpD 25))) (triM [(1, .sl 1 p), (2, .sr 2 8 0 n), (3, .pt 1 0), (7, I z)]) (triO [A, B, C]) 3 ⟨3, [.int (z + 1 : Nat), .b true], []⟩) =
    some (AX.normal, [some (AV.sl 1 p), some (AV.sr 2 8 0 n), some (AV.pt 1 0), some (I (↑(z + 1) : Int))], [some A, some B, some C], 3, [dec (IntKind.wrap IntKind.i64 (↑(z + 1) : Int) = (↑(z + 1) : Int))]) := by kernel_rfl
theorem r25c (k r a tok ty : Int) (op : Bool) (R : List (List AV)) (u' p q S S' : List (List AV)) (n n' z : Nat) (b0 b1 b2 b3 b4 b5 : AV) : outR [1, 2, 3, 7] [0, 1, 5] (runCode Tryz.prog 37 (call25 (cl k r a tok ty op R) q S S' n n' [b0, b1, b2, b3, b4, b5, .sl 7 u']) noPu 3000 (sq2 (sq2 bl25)) (triM [(1, .sl 1 p), (2, .sr 2 8 0 n), (3, .pt 1 0), (7, I z), (8, .sl 1 q)]) (triO [.dead, .box 25 [b0, b1, b2, b3, b4, b5, .sl 7 u'], .row 42 8 S, .dead]) 4 ⟨4, [.row (cl k r a tok ty op R), .b true], []⟩) =
    some (AX.normal, [some (AV.sl 1 p), some (AV.sr 5 8 0 n'), some (AV.pt 1 0), some (I (↑z : Int))], [some Ob.dead, some (Ob.box 25 [b0, b1, b2, b3, b4, b5, AV.sl 7 u']), some (Ob.row 42 8 S')], 6, [dec ([AV.ag [AV.v (Value.int IntKind.i8 k), I r, I a, I tok, I ty, B op, AV.sl 7 R], AV.sl 1 q, AV.sr 2 8 0 n] = [AV.ag [AV.v (Value.int IntKind.i8 k), I r, I a, I tok, I ty, B op, AV.sl 7 R], AV.sl 1 q, AV.sr 2 8 0 n] ∧ [Ob.dead, Ob.box 25 [b0, b1, b2, b3, b4, b5, AV.sl 7 u'], Ob.row 42 8 S, Ob.dead] = [Ob.dead, Ob.box 25 [b0, b1, b2, b3, b4, b5, AV.sl 7 u'], Ob.row 42 8 S, Ob.dead]), dec (u'[z]? = some [AV.v (Value.int IntKind.i8 k), I r, I a, I tok, I ty, B op, AV.sl 7 R])]) := by kernel_rfl

mutual
/-- all places in order -/
def pre : List Nat → Tr → List (List Nat × Tr)
  | p, .mk k r a tok ty op l => (p, .mk k r a tok ty op l) :: preK p 0 l
def preK : List Nat → Nat → List Tr → List (List Nat × Tr)
  | _, _, [] => []
  | p, i, t :: l => pre (p ++ [i]) t ++ preK p (i + 1) l
end
mutual
theorem pre_len : ∀ (p : List Nat) (t : Tr), (pre p t).length = size t
  | p, .mk k r a tok ty op l => by simp only [pre, List.length_cons, size, preK_len p 0 l]
theorem preK_len : ∀ (p : List Nat) (i : Nat) (l : List Tr), (preK p i l).length = sizes l
  | _, _, [] => by simp [preK, sizes]
  | p, i, t :: l => by simp only [preK, List.length_append, sizes, pre_len (p ++ [i]) t, preK_len p (i + 1) l]
end
theorem preK_take : ∀ (l : List Tr) (p : List Nat) (i z : Nat) (u : Tr), l[z]? = some u → preK p i (l.take (z + 1)) = preK p i (l.take z) ++ pre (p ++ [i + z]) u
  | [], p, i, z, u, h => by simp at h
  | t :: l, p, i, 0, u, h => by simp at h; subst h; simp [preK]
  | t :: l, p, i, z + 1, u, h => by
    have := preK_take l p (i + 1) z u (by simpa using h)
    simp only [List.take_succ_cons, preK, this, List.append_assoc]
    rw [show i + 1 + z = i + (z + 1) from by omega]
def spotRow (q : List Nat × Tr) : List AV := .sl 1 (rowsI q.1) :: cells q.2
def spots (l : List (List Nat × Tr)) : List (List AV) := l.map spotRow
theorem pure_spots : ∀ l : List (List Nat × Tr), pureRows (spots l) = true
  | [] => rfl
  | q :: l => by
    have := pure_spots l
    simp only [spots, List.map_cons, pureRows, spotRow, pureVals, AV.pure, pure_rowsI, pure_cells, Bool.and_self, Bool.true_and] at this ⊢
    exact this
theorem spots_app (a b : List (List Nat × Tr)) : spots (a ++ b) = spots a ++ spots b := by simp [spots]
theorem pure_app : ∀ {a b : List (List AV)}, pureRows a = true → pureRows b = true → pureRows (a ++ b) = true
  | [], b, _, h => h
  | r :: a, b, h, k => by
    simp only [pureRows, Bool.and_eq_true] at h
    simp only [List.cons_append, pureRows, Bool.and_eq_true]
    exact ⟨h.1, pure_app h.2 k⟩
theorem f25 : Tryz.prog.funcs[25]? = some Tryz.f25 := by kernel_rfl
theorem n25 : (Tryz.f25.name == "runtime.NumGoroutine") = false := by kernel_rfl
theorem bd25 : Tryz.f25.body = some (seqs (hdD 25) (.seq (.seq (hD 25) (.block 0 (.loop (lpD 25)))) (tlD 25))) := by kernel_rfl
theorem lp25 : lpD 25 = .seq (sq1 (lpD 25)) (.seq (.block 1 (.seq (sq1 bl25) (.seq (sq1 (sq2 bl25)) (sq2 (sq2 bl25))))) (sq2 (sq2 (lpD 25)))) := by kernel_rfl
/-- the state when z kids are done -/
def l25 (p : List Nat) (n z : Nat) : Am.Loc := [(1, .sl 1 (rowsI p)), (2, .sr 2 8 0 n), (3, .pt 1 0), (7, I z)]
def l25q (p q : List Nat) (n z : Nat) : Am.Loc := [(1, .sl 1 (rowsI p)), (2, .sr 2 8 0 n), (3, .pt 1 0), (7, I z), (8, .sl 1 (rowsI q))]
def l25m (p : List Nat) (n z : Nat) : Am.Loc := [(1, .sl 1 (rowsI p)), (2, .sr 2 8 0 n), (3, .pt 1 0), (7, I z), (8, nilS)]
def l25s (p : List Nat) (n z m : Nat) : Am.Loc := [(1, .sl 1 (rowsI p)), (2, .sr 2 8 0 n), (3, .pt 1 0), (7, I z), (8, .sr 3 1 0 m)]
abbrev o25 (u : Tr) (S : List (List AV)) : List Ob := [.dead, bx u, .row 42 8 S]
abbrev q25 (u : Tr) (S : List (List AV)) : List Ob := [.dead, bx u, .row 42 8 S, .dead]
theorem ren_o25 (f : Nat → Nat) (u : Tr) {S : List (List AV)} (hS : pureRows S = true) : (o25 u S).map (Ob.ren f) = o25 u S := by
  simp [Ob.ren, renVals_pure _ _ (pure_cells u), renRows_pure _ _ hS]
theorem k01 {K : Nat} (hK : K ≤ 1) (b c : Nat) : (List.range K).all (fun i => ([0, b, c] : List Nat)[i]? == some i) = true := by
  match K, hK with
  | 0, _ => rfl
  | 1, _ => rfl
theorem k01' {K : Nat} (hK : K ≤ 1) (b c d : Nat) : (List.range K).all (fun i => ([0, b, c, d] : List Nat)[i]? == some i) = true := by
  match K, hK with
  | 0, _ => rfl
  | 1, _ => rfl
/-- a call of 'all' on the store of a caller -/
theorem call25_lift {u v : Tr} {q : List Nat} {S S' : List (List AV)} (hS : pureRows S = true) (hS' : pureRows S' = true) (W : ARet Tryz.prog 25 [tv v, sI q, .sr 0 8 0 S.length] [.row 42 8 S] [] (.sr 2 8 0 S'.length) [.dead, .dead, .row 42 8 S']) :
    CallOk Tryz.prog (call25 (cells v) (rowsI q) S S' S.length S'.length (cells u)) := by
  have h := aret_lift W (sel := [2]) (ob := q25 u S) (by simp) ⟨⟨by simp [Ob.ren, renRows_pure _ _ hS], by simp⟩, trivial⟩ (by simp)
  rw [back_eq] at h
  have e1 : ([Ob.dead, .dead, .row 42 8 S'] : List Ob).map (Ob.ren (fsel [2] (q25 u S).length)) = [.dead, .dead, .row 42 8 S'] := by simp [Ob.ren, renRows_pure _ _ hS']
  have e2 : renVals (fsel [2] (q25 u S).length) [tv v, sI q, .sr 0 8 0 S.length] = [tv v, sI q, .sr 2 8 0 S.length] := by
    simp only [renVals, ren_tv, AV.ren, renRows_pure _ _ (pure_rowsI q)]
    rfl
  rw [e1, e2] at h
  exact knownS_ok (fret_of rfl h) base_ok
theorem frz_more {K : Nat} (u : Tr) (p : List Nat) (S : List (List AV)) (n z : Nat) : Tell Tryz.prog 37 K (l25s p n z (p.length + 1)) (o25 u S ++ [rp (p ++ [z])]) (l25q p (p ++ [z]) n z) (q25 u S) := by
  refine tell_frz (o := 3) (X := rp (p ++ [z])) rfl (.inl ⟨_, _, _, rfl⟩) rfl (fun i Y Y' h1 h2 => ?_) (fun t av' h => ?_)
  · match i with
    | 0 => simp at h2; exact .inl h2.symm
    | 1 => simp at h1 h2; subst h1; subst h2; exact .inr ⟨by omega, .same _⟩
    | 2 => simp at h1 h2; subst h1; subst h2; exact .inr ⟨by omega, .same _⟩
    | 3 => simp at h2; exact .inl h2.symm
    | i + 4 => simp at h2
  · unfold l25q at h
    unfold l25s
    simp only [lk_cons] at h ⊢
    split at h
    · rename_i e; subst e; cases h; exact ⟨_, by simp, .same _⟩
    split at h
    · rename_i e; subst e; cases h; exact ⟨_, by simp, .same _⟩
    split at h
    · rename_i e; subst e; cases h; exact ⟨_, by simp, .same _⟩
    split at h
    · rename_i e; subst e; cases h; exact ⟨_, by simp, .same _⟩
    split at h
    · rename_i e; subst e; cases h; exact ⟨_, by simp; rfl, Frz.sr0 rfl (by rw [rowsI_len, List.length_append]; rfl)⟩
    · simp [lk] at h
theorem ren_l25 (f : Nat → Nat) (h1 : f 1 = 1) (o : Nat) (h2 : f 2 = o) (p : List Nat) (n z : Nat) : renL f (l25 p n z) = [some (sI p), some (.sr o 8 0 n), some (.pt 1 0), some (I z)] := by simp [renL, l25, AV.ren, renRows_pure _ _ (pure_rowsI p), h1, h2]
/-- the path to the next kid -/
theorem more_run {K : Nat} (hK : K ≤ 1) (u : Tr) (p : List Nat) (hp : p.length ≤ 100000) {S : List (List AV)} (hS : pureRows S = true) (n z : Nat) {c : Code} {L' : Am.Loc} {ob' : List Ob} {x : AX} (k : Piece Tryz.prog 37 K c (l25q p (p ++ [z]) n z) (q25 u S) x L' ob') :
    Piece Tryz.prog 37 K (.seq (sq1 bl25) (.seq (sq1 (sq2 bl25)) c)) (l25 p n z) (o25 u S) x L' ob' := by
  have k := piece_tell (frz_more u p S n z) k
  obtain ⟨k0, r0, a0, tok0, ty0, op0, l0⟩ := u
  have hm := r25m k0 r0 a0 tok0 ty0 op0 (rowsT l0) (rowsI p) S n z
  refine piece_seq (pieceL (L' := l25m p n z) (ob' := o25 (.mk k0 r0 a0 tok0 ty0 op0 l0) S) base_ok mixed hm rfl rfl rfl (k01 hK 1 2) (by simp [renL, l25m, AV.ren, renRows_pure _ _ (pure_rowsI p), fsel]) (toldL_all (A := o25 (uu k0 r0 a0 tok0 ty0 op0 l0) S) (ren_o25 _ _ hS))) (piece_seq ?_ k)
  cases p with
  | nil =>
    show Piece Tryz.prog 37 K _ [(1, .sl 1 []), (2, .sr 2 8 0 n), (3, .pt 1 0), (7, I z), (8, nilS)] [.dead, .box 25 (cl k0 r0 a0 tok0 ty0 op0 (rowsT l0)), .row 42 8 S] .normal _ _
    exact pieceL (ob' := o25 (.mk k0 r0 a0 tok0 ty0 op0 l0) S ++ [rp ([] ++ [z])]) (L' := l25s [] n z ([].length + 1)) base_ok mixed (r25b0 k0 r0 a0 tok0 ty0 op0 (rowsT l0) S n z) rfl rfl rfl (k01' hK 1 2 5) rfl
      (toldL_all (A := o25 (uu k0 r0 a0 tok0 ty0 op0 l0) S ++ [rp ([] ++ [z])]) (by rw [List.map_append, ren_o25 _ _ hS]; rfl))
  | cons i p =>
    have hb := r25b1 k0 r0 a0 tok0 ty0 op0 (rowsT l0) [I i] (rowsI p) S n z
    rw [show ([I (i : Int)] :: rowsI p) = rowsI (i :: p) from rfl, List.take_of_length_le (by omega), ← rowsI_snoc] at hb
    refine pieceL (ob' := o25 (.mk k0 r0 a0 tok0 ty0 op0 l0) S ++ [rp ((i :: p) ++ [z])]) (L' := l25s (i :: p) n z ((i :: p).length + 1)) base_ok mixed hb ?_ rfl rfl (k01' hK 1 2 5) ?_ (toldL_all (A := o25 (uu k0 r0 a0 tok0 ty0 op0 l0) S ++ [rp ((i :: p) ++ [z])]) (by rw [List.map_append, ren_o25 _ _ hS]; simp only [List.map_cons, List.map_nil, ren_rp]))
    · exact ac (andt (andt (nle (by omega)) rfl) (andt (andt (nle (by rw [rowsI_len]; omega)) (nle (by rw [rowsI_len]; omega))) rfl)) (ac (andt (andt (andt (rowsOne_rowsI _) (nle (by rw [rowsI_len]; omega))) (nle (by rw [rowsI_len]; omega))) rfl) rfl)
    · simp only [renL, l25s, List.map_cons, List.map_nil, AV.ren, renRows_pure _ _ (pure_rowsI (i :: p))]
      rw [rowsI_len]
      simp [fsel]
theorem step25 {K : Nat} (hK : K ≤ 1) (u v : Tr) (p : List Nat) (hp : p.length ≤ 100000) {S S' : List (List AV)} (hS : pureRows S = true) (hS' : pureRows S' = true) {z : Nat} (hv : u.kids[z]? = some v) (hl : u.kids.length ≤ 100000)
    (W : ARet Tryz.prog 25 [tv v, sI (p ++ [z]), .sr 0 8 0 S.length] [.row 42 8 S] [] (.sr 2 8 0 S'.length) [.dead, .dead, .row 42 8 S']) : Piece Tryz.prog 37 K (lpD 25) (l25 p S.length z) (o25 u S) .normal (l25 p S'.length (z + 1)) (o25 u S') := by
  have hc := call25_lift (u := u) hS hS' W
  have hz : z < u.kids.length := (List.getElem?_eq_some_iff.1 hv).1
  rw [lp25]
  have key : ∀ {S : List (List AV)}, pureRows S = true → ∀ (f : Nat → Nat), (o25 u S).map (Ob.ren f) = o25 u S := fun h f => ren_o25 f u h
  obtain ⟨k0, r0, a0, tok0, ty0, op0, l0⟩ := u
  simp only [Tr.kids] at hv hz hl
  refine piece_seq (pieceL (L' := l25 p S.length z) (ob' := o25 (.mk k0 r0 a0 tok0 ty0 op0 l0) S) base_ok mixed (r25a k0 r0 a0 tok0 ty0 op0 (rowsT l0) (rowsI p) S S.length z) (ac (ylt (by rw [rowsT_len]; exact hz)) rfl) rfl rfl (k01 hK 1 2) (ren_l25 _ rfl 2 rfl _ _ _) (toldL_all (A := o25 (uu k0 r0 a0 tok0 ty0 op0 l0) S) (key hS _)))
    (piece_seq (L1 := l25 p S'.length z) (ob1 := o25 (.mk k0 r0 a0 tok0 ty0 op0 l0) S') (piece_block (more_run hK _ p hp hS S.length z ?_)) ?_)
  · obtain ⟨k, r, a, tok, ty, op, l⟩ := v
    exact pieceL hc mixed (r25c k r a tok ty op (rowsT l) (rowsT l0) (rowsI p) (rowsI (p ++ [z])) S S' S.length S'.length z (.v (.int .i8 k0)) (I r0) (I a0) (I tok0) (I ty0) (B op0)) (ac (dz ⟨rfl, rfl⟩) (ac (d_rowT hv) rfl)) rfl rfl (k01 hK 1 5) (ren_l25 _ rfl 5 rfl _ _ _) (toldL_all (A := o25 (uu k0 r0 a0 tok0 ty0 op0 l0) S') (key hS' _))
  · exact pieceL base_ok mixed (r25i (rowsI p) S'.length z .dead (bx (.mk k0 r0 a0 tok0 ty0 op0 l0)) (.row 42 8 S')) (ac (dinc1 hz (by omega)) rfl) rfl rfl (k01 hK 1 2) (ren_l25 _ rfl 2 rfl _ _ _) (toldL_all (A := o25 (uu k0 r0 a0 tok0 ty0 op0 l0) S') (key hS' _))
def done25 (p : List Nat) (u : Tr) (S : List (List AV)) (z : Nat) : List (List AV) := S ++ (spotRow (p, u) :: spots (preK p 0 (u.kids.take z)))
theorem pure_done {p : List Nat} {u : Tr} {S : List (List AV)} (hS : pureRows S = true) (z : Nat) : pureRows (done25 p u S z) = true := pure_app hS (pure_spots ((p, u) :: preK p 0 (u.kids.take z)))
theorem done_end (p : List Nat) (u : Tr) (S : List (List AV)) : done25 p u S u.kids.length = S ++ spots (pre p u) := by
  obtain ⟨k, r, a, tok, ty, op, l⟩ := u
  simp [done25, Tr.kids, List.take_length, pre, spots]
/-- the loop and the end of 'all' -/
theorem loop25 {K : Nat} (hK : K ≤ 1) (u : Tr) (p : List Nat) (S : List (List AV)) (hS : pureRows S = true) (hp : p.length + size u ≤ 100000)
    (ih : ∀ v ∈ u.kids, ∀ (p : List Nat) (S : List (List AV)), pureRows S = true → p.length + size v ≤ 100000 → S.length + size v ≤ 1000000 → ARet Tryz.prog 25 [tv v, sI p, .sr 0 8 0 S.length] [.row 42 8 S] [] (.sr 2 8 0 (S ++ spots (pre p v)).length) [.dead, .dead, .row 42 8 (S ++ spots (pre p v))]) (hn : S.length + size u ≤ 1000000) (z : Nat) (hz : z ≤ u.kids.length) :
    (∃ y, y ≤ u.kids.length ∧ u.kids.length - y < u.kids.length - z ∧ Piece Tryz.prog Tryz.f25.ntmps K (lpD 25) (l25 p (done25 p u S z).length z) (o25 u (done25 p u S z)) .normal (l25 p (done25 p u S y).length y) (o25 u (done25 p u S y))) ∨
    Brk Tryz.prog Tryz.f25 K (fun e o => e = .ret (.sr 2 8 0 (S ++ spots (pre p u)).length) ∧ ∃ xs, o = [.dead, .dead, .row 42 8 (S ++ spots (pre p u))] ++ xs) 0 (lpD 25) (tlD 25) (l25 p (done25 p u S z).length z) (o25 u (done25 p u S z)) := by
  have hsz : size u = sizes u.kids + 1 := by cases u; rfl
  have hll := length_sizes u.kids
  by_cases hl : z < u.kids.length
  · left
    obtain ⟨v, hv⟩ : ∃ v, u.kids[z]? = some v := ⟨_, List.getElem?_eq_getElem hl⟩
    have hsv := size_kid hv
    have htk := sizes_take u.kids z v hv
    have hle : sizes (u.kids.take (z + 1)) ≤ sizes u.kids := by
      have : ∀ (l : List Tr) (k : Nat), sizes (l.take k) ≤ sizes l := by
        intro l
        induction l with
        | nil => intro k; simp [sizes]
        | cons a l ih => intro k; cases k with
          | zero => simp [sizes]
          | succ k => have := ih k; simp only [List.take_succ_cons, sizes]; omega
      exact this _ (z + 1)
    have hlen : (done25 p u S z).length = S.length + 1 + sizes (u.kids.take z) := by
      simp only [done25, List.length_append, List.length_cons, spots, List.length_map, preK_len]; omega
    have W := ih v (List.mem_of_getElem? hv) (p ++ [z]) (done25 p u S z) (pure_done hS z) (by simp; omega) (by omega)
    have hd : done25 p u S z ++ spots (pre (p ++ [z]) v) = done25 p u S (z + 1) := by
      simp only [done25, preK_take _ p 0 z v hv, spots_app, Nat.zero_add, List.append_assoc, List.cons_append]
    rw [hd] at W
    exact ⟨z + 1, hl, by omega, step25 hK u v p (by omega) (pure_done hS z) (pure_done hS (z + 1)) hv (by omega) W⟩
  · right
    have hz' : z = u.kids.length := by omega
    subst hz'
    rw [done_end]
    have hp2 : pureRows (S ++ spots (pre p u)) = true := pure_app hS (pure_spots _)
    generalize S ++ spots (pre p u) = T at hp2 ⊢
    obtain ⟨k0, r0, a0, tok0, ty0, op0, l0⟩ := u
    refine brk_exit (L1 := l25 p T.length l0.length) (ob1 := o25 (.mk k0 r0 a0 tok0 ty0 op0 l0) T) ?_ ?_
    · rw [lp25]
      refine piece_left ?_ (by simp)
      exact pieceL base_ok mixed (r25x k0 r0 a0 tok0 ty0 op0 (rowsT l0) (rowsI p) T T.length l0.length) (ac (nlt (by rw [rowsT_len]; exact Nat.le_refl _)) rfl) rfl rfl (k01 hK 1 2) (ren_l25 _ rfl 2 rfl _ _ _) (toldL_all (A := o25 (uu k0 r0 a0 tok0 ty0 op0 l0) T) (ren_o25 _ _ hp2))
    · refine fin_tell (L1 := l25 p T.length l0.length) (ob1 := [.dead, .dead, .row 42 8 T]) ?_ ?_
      · refine tell_view (sel := [0, 1, 2]) ⟨by decide, rfl, fun i s X h1 h2 => ?_, fun i hi => ?_, fun t av h => ?_⟩
        · match i with
          | 0 => simp at h1 h2; subst h1; subst h2; exact ⟨_, rfl, .same _⟩
          | 1 => simp at h1 h2; subst h1; subst h2; exact ⟨_, rfl, .dead _⟩
          | 2 => simp at h1 h2; subst h1; subst h2; exact ⟨_, rfl, by simp [Ob.ren, renRows_pure _ _ hp2]; exact .same _⟩
          | i + 3 => simp at h2
        · match K, hK with
          | 1, _ => have : i = 0 := by omega
                    subst this; rfl
          | 0, _ => omega
        · have e : av.ren (fsel [0, 1, 2] (o25 (.mk k0 r0 a0 tok0 ty0 op0 l0) T).length) = av := lk_same (ren_l25 _ rfl 2 rfl _ _ _) t av h
          rw [e]; exact h
      · exact fin_run (obs := [.dead, .dead, .row 42 8 T]) base_ok mixed (r25l (rowsI p) T T.length l0.length) rfl rfl fun xs => ⟨rfl, xs, rfl⟩
theorem all25 : ∀ (u : Tr) (p : List Nat) (S : List (List AV)), pureRows S = true → p.length + size u ≤ 100000 → S.length + size u ≤ 1000000 → ARet Tryz.prog 25 [tv u, sI p, .sr 0 8 0 S.length] [.row 42 8 S] [] (.sr 2 8 0 (S ++ spots (pre p u)).length) [.dead, .dead, .row 42 8 (S ++ spots (pre p u))] := Tr.ind fun k r a tok ty op l ih p S hS hp hn => by
  have hpos : 1 ≤ size (.mk k r a tok ty op l) := size_pos _
  refine aret_pcs f25 n25 bd25 (Nat.le_of_ble_eq_true rfl) (by simp) rfl (by simp [Ob.und, undRows_pure _ _ (pure_app hS (pure_spots _))]) ?_
  refine fin_headLoop base_ok mixed (ι := Nat) (fun z => l25 p (done25 p (.mk k r a tok ty op l) S z).length z) (fun z => o25 (.mk k r a tok ty op l) (done25 p (.mk k r a tok ty op l) S z)) (fun z => z ≤ l.length) (fun z => l.length - z) 0 (Nat.zero_le _)
    (h25r k r a tok ty op (rowsT l) (rowsI p) S S.length) (ac (andt (andt (nle (Nat.le_refl _)) rfl) (andt (andt (nle (by omega)) (nle (by omega))) rfl)) rfl) rfl rfl ?_ ?_ (fun z hz => loop25 (Nat.le_refl 1) _ p S hS hp ih hn z hz)
  · rw [ren_l25 _ rfl 3 rfl]; simp [done25, spots, preK]
  · rw [show List.take S.length S = S from List.take_length]
    have := toldL_all (f := fsel [0, 1, 3] 4) (A := o25 (.mk k r a tok ty op l) (done25 p (.mk k r a tok ty op l) S 0)) (ren_o25 _ _ (pure_done hS 0))
    have e : done25 p (.mk k r a tok ty op l) S 0 = S ++ [AV.sl 1 (rowsI p) :: cl k r a tok ty op (rowsT l)] := by simp [done25, spots, preK, spotRow, cells]
    simp only [e] at this ⊢
    exact this
theorem all25n (u : Tr) (p : List Nat) (hp : p.length + size u ≤ 100000) : ARet Tryz.prog 25 [tv u, sI p, nilS] [] [] (.sr 2 8 0 (spots (pre p u)).length) [.dead, .dead, .row 42 8 (spots (pre p u))] := by
  obtain ⟨k, r, a, tok, ty, op, l⟩ := u
  have := loop25 (K := 0) (Nat.zero_le _) (.mk k r a tok ty op l) p [] rfl hp (fun v _ p S h1 h2 h3 => all25 v p S h1 h2 h3) (by simp; omega)
  simp only [List.nil_append] at this
  refine aret_pcs f25 n25 bd25 (Nat.le_of_ble_eq_true rfl) (by simp) rfl (by simp [Ob.und, undRows_pure _ _ (pure_spots _)]) ?_
  refine fin_headLoop base_ok mixed (ι := Nat) (fun z => l25 p (done25 p (.mk k r a tok ty op l) [] z).length z) (fun z => o25 (.mk k r a tok ty op l) (done25 p (.mk k r a tok ty op l) [] z)) (fun z => z ≤ l.length) (fun z => l.length - z) 0 (Nat.zero_le _)
    (h25n k r a tok ty op (rowsT l) (rowsI p)) rfl rfl rfl ?_ ?_ (fun z hz => this z hz)
  · simp [renL, l25, AV.ren, renRows_pure _ _ (pure_rowsI p), fsel, done25, spots, preK]
  · exact ⟨.dead _, by rw [ren_bx]; exact .same _, by
      have e := pure_done (p := p) (u := .mk k r a tok ty op l) (S := []) rfl 0
      simp only [Ob.ren, renRows_pure _ _ e]
      simp [done25, spots, preK, spotRow, cells]
      exact .same _, trivial⟩
end Go.Proofs.YtobehholoenaiaaGreatDoor
