/- How deep rules stand in one another: tree.Depth, ref24.Depth; two paths held against each other. -/
import Derived.Test.YtobehholoenaiaaGreatDoorU1
import Derived.Test.YtobehholoenaiaaGreatDoorAmPc
namespace Go.Proofs.YtobehholoenaiaaGreatDoor
open Go.Am
noncomputable def callD (f : FuncId) (u : List AV) (d : Int) : CallF := known1 f (fun args => args = [.ag u]) (fun _ => I d) base
noncomputable def hdD (f : Nat) : List Code := [sq1 (bodyOf f), sq1 (sq2 (bodyOf f))]
noncomputable def hD (f : Nat) : Code := sq1 (sq1 (sq2 (sq2 (bodyOf f))))
noncomputable def lpD (f : Nat) : Code := inn (sq2 (sq1 (sq2 (sq2 (bodyOf f)))))
noncomputable def tlD (f : Nat) : Code := sq2 (sq2 (sq2 (bodyOf f)))
def d14L (R : List (List AV)) (n i : Int) : Am.Loc := [(1, .pt 0 0), (3, I n), (7, .sl 7 R), (8, I R.length), (9, I i)]
def d15L (n i : Int) : Am.Loc := [(1, .pt 0 0), (3, I n), (4, I i)]
def s18L (p : List (List AV)) (i : Int) : Am.Loc := [(0, .sl 1 p), (1, .sl 1 p), (5, I i)]
theorem d14_head (k r a tok ty : Int) (op : Bool) (R : List (List AV)) : outR [1, 3, 7, 8, 9] [0] (runL Tryz.prog 24 base noPu 3000 (hdD 14 ++ [hD 14]) (argT 0 [.ag (cl k r a tok ty op R)] .e) .e 0 ⟨0, [.b true], []⟩) =
    some (AX.normal, [some (AV.pt 0 0), some (I 0), some (AV.sl 7 R), some (I (↑(List.length R) : Int)), some (I 0)], [some (Ob.box 25 [AV.v (Value.int IntKind.i8 k), I r, I a, I tok, I ty, B op, AV.sl 7 R])], 1, []) := by kernel_rfl
theorem d14_step (k r a tok ty : Int) (op : Bool) (R : List (List AV)) (k2 r2 a2 tok2 ty2 : Int) (op2 : Bool) (R2 : List (List AV)) (n d m : Int) (z : Nat) : outR [1, 3, 7, 8, 9] [0] (runCode Tryz.prog 24 (callD 14 (cl k2 r2 a2 tok2 ty2 op2 R2) d) noPu 3000 (lpD 14) (triM (d14L R n z)) (triO [.box 25 (cl k r a tok ty op R)]) 1 ⟨1, [.b true, .row (cl k2 r2 a2 tok2 ty2 op2 R2), .val (.int .i64 m), .int (z + 1 : Nat), .b true], []⟩) =
    some (AX.normal, [some (AV.pt 0 0), some (I m), some (AV.sl 7 R), some (I (↑(List.length R) : Int)), some (I (↑(z + 1) : Int))], [some (Ob.box 25 [AV.v (Value.int IntKind.i8 k), I r, I a, I tok, I ty, B op, AV.sl 7 R])], 2, [dec (IntKind.wrap IntKind.i64 (↑(z + 1) : Int) = (↑(z + 1) : Int)), dec (CallP Tryz.prog Builtin.max (Array.mk [3, 3]) 3 (Array.mk [false, false]) [Value.int IntKind.i64 n, Value.int IntKind.i64 d] (Value.int IntKind.i64 m)), true, dec ([AV.ag [AV.v (Value.int IntKind.i8 k2), I r2, I a2, I tok2, I ty2, B op2, AV.sl 7 R2]] = [AV.ag [AV.v (Value.int IntKind.i8 k2), I r2, I a2, I tok2, I ty2, B op2, AV.sl 7 R2]]), pureVals [AV.ag [AV.v (Value.int IntKind.i8 k2), I r2, I a2, I tok2, I ty2, B op2, AV.sl 7 R2]] && true && true, dec (R[z]? = some [AV.v (Value.int IntKind.i8 k2), I r2, I a2, I tok2, I ty2, B op2, AV.sl 7 R2]), decide ((↑z : Int) < (↑(List.length R) : Int))]) := by kernel_rfl
theorem d14_rule (k r a tok ty : Int) (op : Bool) (R : List (List AV)) (n m : Int) (z : Nat) : lastC Tryz.prog [.tmp 2] 0 (lastR Tryz.prog 24 base noPu 3000 0 (tlD 14) (runCode Tryz.prog 24 base noPu 3000 (lpD 14) (triM (d14L R n z)) (triO [.box 25 (cl k r a tok ty op R)]) 1 ⟨1, [.b false, .b true, .int m, .b true], []⟩)) =
    some (I m, [], [dec (IntKind.wrap IntKind.i64 (n + 1) = m), k == 0, !decide ((↑z : Int) < (↑(List.length R) : Int))]) := by kernel_rfl
theorem d14_not (k r a tok ty : Int) (op : Bool) (R : List (List AV)) (n : Int) (z : Nat) : lastC Tryz.prog [.tmp 2] 0 (lastR Tryz.prog 24 base noPu 3000 0 (tlD 14) (runCode Tryz.prog 24 base noPu 3000 (lpD 14) (triM (d14L R n z)) (triO [.box 25 (cl k r a tok ty op R)]) 1 ⟨1, [.b false, .b false, .b true], []⟩)) =
    some (I n, [], [!k == 0, !decide ((↑z : Int) < (↑(List.length R) : Int))]) := by kernel_rfl
theorem d15_head (k r a tok ty : Int) (op : Bool) (R : List (List AV)) : outR [1, 3, 4] [0] (runL Tryz.prog 26 base noPu 3000 (hdD 15 ++ [hD 15]) (argT 0 [.ag (cl k r a tok ty op R)] .e) .e 0 ⟨0, [.b true], []⟩) =
    some (AX.normal, [some (AV.pt 0 0), some (I 0), some (I 0)], [some (Ob.box 25 [AV.v (Value.int IntKind.i8 k), I r, I a, I tok, I ty, B op, AV.sl 7 R])], 1, []) := by kernel_rfl
theorem d15_step (k r a tok ty : Int) (op : Bool) (R : List (List AV)) (k2 r2 a2 tok2 ty2 : Int) (op2 : Bool) (R2 : List (List AV)) (n d m : Int) (z : Nat) : outR [1, 3, 4] [0] (runCode Tryz.prog 26 (callD 15 (cl k2 r2 a2 tok2 ty2 op2 R2) d) noPu 3000 (lpD 15) (triM (d15L n z)) (triO [.box 25 (cl k r a tok ty op R)]) 1 ⟨1, [.b true, .row (cl k2 r2 a2 tok2 ty2 op2 R2), .val (.int .i64 m), .int (z + 1 : Nat), .b true], []⟩) =
    some (AX.normal, [some (AV.pt 0 0), some (I m), some (I (↑(z + 1) : Int))], [some (Ob.box 25 [AV.v (Value.int IntKind.i8 k), I r, I a, I tok, I ty, B op, AV.sl 7 R])], 1, [dec (IntKind.wrap IntKind.i64 (↑(z + 1) : Int) = (↑(z + 1) : Int)), dec (CallP Tryz.prog Builtin.max (Array.mk [3, 3]) 3 (Array.mk [false, false]) [Value.int IntKind.i64 n, Value.int IntKind.i64 d] (Value.int IntKind.i64 m)), true, dec ([AV.ag [AV.v (Value.int IntKind.i8 k2), I r2, I a2, I tok2, I ty2, B op2, AV.sl 7 R2]] = [AV.ag [AV.v (Value.int IntKind.i8 k2), I r2, I a2, I tok2, I ty2, B op2, AV.sl 7 R2]]), pureVals [AV.ag [AV.v (Value.int IntKind.i8 k2), I r2, I a2, I tok2, I ty2, B op2, AV.sl 7 R2]] && true && true, dec (R[z]? = some [AV.v (Value.int IntKind.i8 k2), I r2, I a2, I tok2, I ty2, B op2, AV.sl 7 R2]), decide ((↑z : Int) < (↑(List.length R) : Int))]) := by kernel_rfl
theorem d15_rule (k r a tok ty : Int) (op : Bool) (R : List (List AV)) (n m : Int) (z : Nat) : lastC Tryz.prog [.tmp 2] 0 (lastR Tryz.prog 26 base noPu 3000 0 (tlD 15) (runCode Tryz.prog 26 base noPu 3000 (lpD 15) (triM (d15L n z)) (triO [.box 25 (cl k r a tok ty op R)]) 1 ⟨1, [.b false, .b true, .int m, .b true], []⟩)) =
    some (I m, [], [dec (IntKind.wrap IntKind.i64 (n + 1) = m), k == 0, !decide ((↑z : Int) < (↑(List.length R) : Int))]) := by kernel_rfl
theorem d15_not (k r a tok ty : Int) (op : Bool) (R : List (List AV)) (n : Int) (z : Nat) : lastC Tryz.prog [.tmp 2] 0 (lastR Tryz.prog 26 base noPu 3000 0 (tlD 15) (runCode Tryz.prog 26 base noPu 3000 (lpD 15) (triM (d15L n z)) (triO [.box 25 (cl k r a tok ty op R)]) 1 ⟨1, [.b false, .b false, .b true], []⟩)) =
    some (I n, [], [!k == 0, !decide ((↑z : Int) < (↑(List.length R) : Int))]) := by kernel_rfl
theorem s18_head (p : List (List AV)) : outR [0, 1, 5] [] (runL Tryz.prog 26 base noPu 3000 (hdD 18 ++ [hD 18]) (argT 0 [.sl 1 p, .sl 1 p] .e) .e 0 ⟨0, [.b false, .b true], []⟩) =
    some (AX.normal, [some (AV.sl 1 p), some (AV.sl 1 p), some (I 0)], [], 0, [!(↑(List.length p) : Int) != (↑(List.length p) : Int)]) := by kernel_rfl
theorem s18_step (p : List (List AV)) (z : Nat) (i : Int) : outR [0, 1, 5] [] (runCode Tryz.prog 26 base noPu 3000 (lpD 18) (triM (s18L p z)) (triO []) 0 ⟨0, [.b true, .row [I i], .row [I i], .b false, .int (z + 1 : Nat), .b true], []⟩) =
    some (AX.normal, [some (AV.sl 1 p), some (AV.sl 1 p), some (I (↑(z + 1) : Int))], [], 0, [dec (IntKind.wrap IntKind.i64 (↑(z + 1) : Int) = (↑(z + 1) : Int)), !i != i, dec (p[z]? = some [I i]), dec (p[z]? = some [I i]), decide ((↑z : Int) < (↑(List.length p) : Int))]) := by kernel_rfl
theorem s18_last (p : List (List AV)) (z : Nat) : lastC Tryz.prog [.tmp 4] 0 (lastR Tryz.prog 26 base noPu 3000 0 (tlD 18) (runCode Tryz.prog 26 base noPu 3000 (lpD 18) (triM (s18L p z)) (triO []) 0 ⟨0, [.b false, .b true], []⟩)) =
    some (B true, [], [!decide ((↑z : Int) < (↑(List.length p) : Int))]) := by kernel_rfl

mutual
def dep : Tr → Nat
  | .mk k _ _ _ _ _ l => deps l + (if k = 0 then 1 else 0)
def deps : List Tr → Nat
  | [] => 0
  | t :: l => max (dep t) (deps l)
end
mutual
theorem dep_size : ∀ t : Tr, dep t ≤ size t
  | .mk k _ _ _ _ _ l => by
    have := deps_size l
    simp only [dep, size]
    split <;> omega
theorem deps_size : ∀ l : List Tr, deps l ≤ sizes l
  | [] => by simp [deps]
  | t :: l => by
    have := dep_size t
    have := deps_size l
    simp only [deps, sizes]
    omega
end
theorem deps_take : ∀ (l : List Tr) (z : Nat) (u : Tr), l[z]? = some u → deps (l.take (z + 1)) = max (deps (l.take z)) (dep u)
  | [], z, u, h => by simp at h
  | t :: l, 0, u, h => by simp at h; subst h; simp [deps]
  | t :: l, z + 1, u, h => by
    have := deps_take l z u (by simpa using h)
    simp only [List.take_succ_cons, deps, this]
    omega
theorem deps_le : ∀ (l : List Tr) (z : Nat), deps (l.take z) ≤ sizes l
  | [], z => by simp [deps]
  | t :: l, 0 => by simp [deps]
  | t :: l, z + 1 => by
    have := deps_le l z
    have := dep_size t
    simp only [List.take_succ_cons, deps, sizes]
    omega
theorem maxP {P : Program} {ts : Array TypeId} {ty : TypeId} {fl : Array Bool} {a b c : Int} (h : c = max a b) : CallP P .max ts ty fl [.int .i64 a, .int .i64 b] (.int .i64 c) := by
  subst h
  have e : (if a < b then b else a) = max a b := by omega
  unfold CallP
  simp only [invoke, builtin, Builtin.max_, Builtin.max2, List.foldlM, e]
  rfl
theorem callD_ok {f : FuncId} {u : Tr} {d : Int} (h : ARet Tryz.prog f [tv u] [] [] (I d) []) (hf : Nat.blt f yBase = true) : CallOk Tryz.prog (callD f (cells u) d) :=
  known1_ok (fun args e => by subst e; exact ⟨h, by simp [pureVals, AV.pure, pure_cells], rfl⟩) base_ok hf
theorem ren_box1 (f : Nat → Nat) (t : Tr) : [Ob.box 25 (cells t)].map (Ob.ren f) = [.box 25 (cells t)] := by simp [Ob.ren, renVals_pure _ _ (pure_cells t)]
theorem p1 (u : Tr) : (pureVals [AV.ag (cells u)] && true && true) = true := by simp [pureVals, AV.pure, pure_cells]
theorem f14 : Tryz.prog.funcs[14]? = some Tryz.f14 := by kernel_rfl
theorem n14 : (Tryz.f14.name == "runtime.NumGoroutine") = false := by kernel_rfl
theorem bd14 : Tryz.f14.body = some (seqs (hdD 14) (.seq (.seq (hD 14) (.block 0 (.loop (lpD 14)))) (tlD 14))) := by kernel_rfl
theorem depth14 : ∀ t : Tr, size t ≤ 100000 → ARet Tryz.prog 14 [tv t] [] [] (I (dep t)) [] := Tr.ind fun k r a tok ty op l ih hs => by
  simp only [size] at hs
  have hll := length_sizes l
  have hren : ∀ (f : Nat → Nat) (n : Int) (z : Nat), renL f (d14L (rowsT l) n z) = [some (.pt (f 0) 0), some (I n), some (.sl 7 (rowsT l)), some (I (rowsT l).length), some (I z)] := fun f n z => by simp [renL, d14L, AV.ren, renRows_pure _ _ (pure_rowsT l)]
  refine aret_pcs f14 n14 bd14 (Nat.le_of_ble_eq_true rfl) (Nat.zero_le _) rfl rfl ?_
  refine fin_headLoop base_ok mixed (ι := Nat) (fun z => d14L (rowsT l) (deps (l.take z)) z) (fun _ => [.box 25 (cells (uu k r a tok ty op l))]) (fun z => z ≤ l.length) (fun z => l.length - z) 0 (Nat.zero_le _)
    (d14_head k r a tok ty op (rowsT l)) rfl rfl rfl (hren _ _ _) (toldL_all (A := [.box 25 (cells (uu k r a tok ty op l))]) (ren_box1 _ _)) ?_
  · intro z hz
    by_cases hl : z < l.length
    · left
      obtain ⟨u, hu⟩ : ∃ u, l[z]? = some u := ⟨_, List.getElem?_eq_getElem hl⟩
      have hsu := size_kid hu
      have hc := callD_ok (ih u (List.mem_of_getElem? hu) (by omega)) rfl
      have hd := dep_size u
      have hk := deps_le l z
      obtain ⟨k2, r2, a2, tok2, ty2, op2, l2⟩ := u
      refine ⟨z + 1, hl, by omega, pieceL (L' := d14L (rowsT l) (deps (l.take (z + 1))) (z + 1 : Nat)) hc mixed (d14_step k r a tok ty op (rowsT l) k2 r2 a2 tok2 ty2 op2 (rowsT l2) (deps (l.take z)) _ (deps (l.take (z + 1))) z) ?_ rfl rfl rfl (hren _ _ _) (toldL_all (A := [.box 25 (cells (uu k r a tok ty op l))]) (ren_box1 _ _))⟩
      exact ac (dinc1 hl (by omega)) (ac (dec_true.2 (maxP (by rw [deps_take l z _ hu]; omega))) (ac rfl (ac (dec_true.2 rfl) (ac (p1 (uu k2 r2 a2 tok2 ty2 op2 l2)) (ac (d_rowT hu) (ac (ylt (by rw [rowsT_len]; exact hl)) rfl))))))
    · right
      have hz' : z = l.length := by omega
      subst hz'
      have hd := deps_size l
      have ht : l.take l.length = l := List.take_length
      by_cases h0 : k = 0
      · subst h0
        rw [ht, show ((dep (.mk 0 r a tok ty op l) : Nat) : Int) = ((deps l + 1 : Nat) : Int) from by simp [dep]]
        exact brk_run base_ok mixed (obs := []) (d14_rule 0 r a tok ty op (rowsT l) (deps l) (deps l + 1 : Nat) l.length) (ac (dec_true.2 (by rw [wrap64 (by omega) (by omega)]; omega)) (ac rfl (ac (nlt (by rw [rowsT_len]; exact Nat.le_refl _)) rfl))) rfl fun xs => ⟨rfl, xs, rfl⟩
      · rw [ht, show ((dep (.mk k r a tok ty op l) : Nat) : Int) = ((deps l : Nat) : Int) from by simp [dep, h0]]
        exact brk_run base_ok mixed (obs := []) (d14_not k r a tok ty op (rowsT l) (deps l) l.length) (ac (by simp [h0]) (ac (nlt (by rw [rowsT_len]; exact Nat.le_refl _)) rfl)) rfl fun xs => ⟨rfl, xs, rfl⟩
theorem f15 : Tryz.prog.funcs[15]? = some Tryz.f15 := by kernel_rfl
theorem n15 : (Tryz.f15.name == "runtime.NumGoroutine") = false := by kernel_rfl
theorem bd15 : Tryz.f15.body = some (seqs (hdD 15) (.seq (.seq (hD 15) (.block 0 (.loop (lpD 15)))) (tlD 15))) := by kernel_rfl
theorem depth15 : ∀ t : Tr, size t ≤ 100000 → ARet Tryz.prog 15 [tv t] [] [] (I (dep t)) [] := Tr.ind fun k r a tok ty op l ih hs => by
  simp only [size] at hs
  have hll := length_sizes l
  have hren : ∀ (f : Nat → Nat) (n : Int) (z : Nat), renL f (d15L n z) = [some (.pt (f 0) 0), some (I n), some (I z)] := fun f n z => by simp [renL, d15L, AV.ren]
  refine aret_pcs f15 n15 bd15 (Nat.le_of_ble_eq_true rfl) (Nat.zero_le _) rfl rfl ?_
  refine fin_headLoop base_ok mixed (ι := Nat) (fun z => d15L (deps (l.take z)) z) (fun _ => [.box 25 (cells (uu k r a tok ty op l))]) (fun z => z ≤ l.length) (fun z => l.length - z) 0 (Nat.zero_le _)
    (d15_head k r a tok ty op (rowsT l)) rfl rfl rfl (hren _ _ _) (toldL_all (A := [.box 25 (cells (uu k r a tok ty op l))]) (ren_box1 _ _)) ?_
  · intro z hz
    by_cases hl : z < l.length
    · left
      obtain ⟨u, hu⟩ : ∃ u, l[z]? = some u := ⟨_, List.getElem?_eq_getElem hl⟩
      have hsu := size_kid hu
      have hc := callD_ok (ih u (List.mem_of_getElem? hu) (by omega)) rfl
      have hd := dep_size u
      have hk := deps_le l z
      obtain ⟨k2, r2, a2, tok2, ty2, op2, l2⟩ := u
      refine ⟨z + 1, hl, by omega, pieceL (L' := d15L (deps (l.take (z + 1))) (z + 1 : Nat)) hc mixed (d15_step k r a tok ty op (rowsT l) k2 r2 a2 tok2 ty2 op2 (rowsT l2) (deps (l.take z)) _ (deps (l.take (z + 1))) z) ?_ rfl rfl rfl (hren _ _ _) (toldL_all (A := [.box 25 (cells (uu k r a tok ty op l))]) (ren_box1 _ _))⟩
      exact ac (dinc1 hl (by omega)) (ac (dec_true.2 (maxP (by rw [deps_take l z _ hu]; omega))) (ac rfl (ac (dec_true.2 rfl) (ac (p1 (uu k2 r2 a2 tok2 ty2 op2 l2)) (ac (d_rowT hu) (ac (ylt (by rw [rowsT_len]; exact hl)) rfl))))))
    · right
      have hz' : z = l.length := by omega
      subst hz'
      have hd := deps_size l
      have ht : l.take l.length = l := List.take_length
      by_cases h0 : k = 0
      · subst h0
        rw [ht, show ((dep (.mk 0 r a tok ty op l) : Nat) : Int) = ((deps l + 1 : Nat) : Int) from by simp [dep]]
        exact brk_run base_ok mixed (obs := []) (d15_rule 0 r a tok ty op (rowsT l) (deps l) (deps l + 1 : Nat) l.length) (ac (dec_true.2 (by rw [wrap64 (by omega) (by omega)]; omega)) (ac rfl (ac (nlt (by rw [rowsT_len]; exact Nat.le_refl _)) rfl))) rfl fun xs => ⟨rfl, xs, rfl⟩
      · rw [ht, show ((dep (.mk k r a tok ty op l) : Nat) : Int) = ((deps l : Nat) : Int) from by simp [dep, h0]]
        exact brk_run base_ok mixed (obs := []) (d15_not k r a tok ty op (rowsT l) (deps l) l.length) (ac (by simp [h0]) (ac (nlt (by rw [rowsT_len]; exact Nat.le_refl _)) rfl)) rfl fun xs => ⟨rfl, xs, rfl⟩
theorem f18 : Tryz.prog.funcs[18]? = some Tryz.f18 := by kernel_rfl
theorem n18 : (Tryz.f18.name == "runtime.NumGoroutine") = false := by kernel_rfl
theorem bd18 : Tryz.f18.body = some (seqs (hdD 18) (.seq (.seq (hD 18) (.block 0 (.loop (lpD 18)))) (tlD 18))) := by kernel_rfl
theorem d_rowI {p : List Nat} {z : Nat} {i : Nat} (h : p[z]? = some i) : dec ((rowsI p)[z]? = some [I i]) = true := dec_true.2 (by simp [rowsI, h])
theorem same18 (p : List Nat) (hp : p.length ≤ 100000) : ARet Tryz.prog 18 [.sl 1 (rowsI p), .sl 1 (rowsI p)] [] [] (B true) [] := by
  have hren : ∀ (f : Nat → Nat) (z : Nat), renL f (s18L (rowsI p) z) = [some (.sl 1 (rowsI p)), some (.sl 1 (rowsI p)), some (I z)] := fun f z => by simp [renL, s18L, AV.ren, renRows_pure _ _ (pure_rowsI p)]
  refine aret_loop2 base_ok mixed (pu := noPu) (lf := 3000) (fn := Tryz.f18) (hs := hdD 18) (H := hD 18) (id := 0) (c := lpD 18) (B := tlD 18) f18 n18 bd18 (Nat.le_of_ble_eq_true rfl) rfl rfl
    (ι := Nat) (fun z => s18L (rowsI p) z) (fun _ => []) (fun z => z ≤ p.length) (fun z => p.length - z) 0 (Nat.zero_le _) ?_ ?_
  · exact head_of (L' := s18L (rowsI p) (0 : Nat)) (s18_head (rowsI p)) (ac (b_nne _) rfl) rfl (hren _ _) rfl
  · intro z hz
    by_cases hl : z < p.length
    · left
      obtain ⟨i, hi⟩ : ∃ i, p[z]? = some i := ⟨_, List.getElem?_eq_getElem hl⟩
      exact ⟨z + 1, hl, by omega, step_of (L' := s18L (rowsI p) (z + 1 : Nat)) (s18_step (rowsI p) z i) (ac (dinc1 hl (by omega)) (ac (b_nne _) (ac (d_rowI hi) (ac (d_rowI hi) (ac (ylt (by rw [rowsI_len]; exact hl)) rfl))))) rfl (hren _ _) rfl⟩
    · right
      exact last_of (obs := []) (s18_last (rowsI p) z) (ac (nlt (by rw [rowsI_len]; omega)) rfl) rfl
end Go.Proofs.YtobehholoenaiaaGreatDoor
