/- units.Place at any place of an input: what it gives is what a walk over the units gives. -/
import Derived.Test.YtifnhnkogcgnaaaDoorE2
namespace Go.Proofs.YtifnhnkogcgnaaaDoor
open Go.Am
theorem maxP {P : Program} {ts : Array TypeId} {ty : TypeId} {fl : Array Bool} {a b c : Int} (h : c = max a b) : CallP P .max ts ty fl [.int .i64 a, .int .i64 b] (.int .i64 c) := by
  subst h
  have e : (if a < b then b else a) = max a b := by omega
  unfold CallP
  simp only [invoke, builtin, Builtin.max_, Builtin.max2, List.foldlM, List.toArray, e]
  rfl
theorem minP {P : Program} {ts : Array TypeId} {ty : TypeId} {fl : Array Bool} {a b c : Int} (h : c = min a b) : CallP P .min ts ty fl [.int .i64 a, .int .i64 b] (.int .i64 c) := by
  subst h
  have e : (if b < a then b else a) = min a b := by omega
  unfold CallP
  simp only [invoke, builtin, Builtin.min_, Builtin.min2, List.foldlM, List.toArray, e]
  rfl
noncomputable def callR34 : CallF := knownP 44 (CloneArg 1) newRes newObs (runOne Tryd.prog noPu 3000 (known1 50 (SizedP 50) (pairOf 50) base))
theorem callR34_ok : CallOk Tryd.prog callR34 := knownP_ok new_known (runOne_ok (known1_ok pair_ok base_ok) mixed _ _)
def placeL (rows : List (List AV)) (t : Int) : Am.Loc := [(0, .sl 1 rows), (1, I t), (6, .pt 0 0)]
noncomputable def hd34 : List Code := [sq1 (bodyOf 34), sq1 (sq2 (bodyOf 34))]
noncomputable def lp34 : Code := inn (sq1 (sq2 (sq2 (bodyOf 34))))
noncomputable def tl34 : Code := sq2 (sq2 (sq2 (bodyOf 34)))
theorem place_head (rows : List (List AV)) (t : Int) : outR [0, 1, 6] [2] (runL Tryd.prog 29 callR34 noPu 3000 hd34 (argT 0 [.sl 1 rows, I t] .e) .e 0 ⟨0, [.b true], []⟩) = some (.normal, [some (.sl 1 rows), some (I t), some (.pt 2 0)], [some (.box (cursor rows 0 0 1 0))], 3,
    [dec (CloneArg 1 [.sl 1 rows])]) := by kernel_rfl
theorem place_step (rows : List (List AV)) (t a b l c : Int) (a' : Int) (m m2 : Int) : outR [0, 1, 6] [0] (runCode Tryd.prog 29 callR34 noPu 3000 lp34 (triM (placeL rows t)) (triO [.box (cursor rows a b l c)]) 1 ⟨1, [.val (.int .i64 m), .val (.int .i64 m2), .b true, .b false, .b false, .int a', .int (b+1), .int (c+1), .b false, .b true], []⟩) =
    some (.normal, [some (.sl 1 rows), some (I t), some (.pt 0 0)], [some (.box (cursor rows a' (b + 1) l (c + 1)))], 1,
    [!(unitOf 50 [.sl 1 rows, I a] == 10), dec (IntKind.i64.wrap (c + 1) = c + 1), dec (IntKind.i64.wrap (b + 1) = b + 1), dec (IntKind.i64.wrap (a + ↑(sizeOf' 50 [.sl 1 rows, I a])) = a'), !((sizeOf' 50 [.sl 1 rows, I a] : Int) == 0), dec (SizedP 50 [.sl 1 rows, I a]), true,
     decide (a < m2), dec (CallP Tryd.prog .min #[3, 3] 3 #[false, false] [.int .i64 m, .int .i64 rows.length] (.int .i64 m2)), dec (CallP Tryd.prog .max #[3, 3] 3 #[false, true] [.int .i64 t, .int .i64 0] (.int .i64 m))]) := by kernel_rfl
theorem place_line (rows : List (List AV)) (t a b l c : Int) (a' : Int) (m m2 : Int) : outR [0, 1, 6] [0] (runCode Tryd.prog 29 callR34 noPu 3000 lp34 (triM (placeL rows t)) (triO [.box (cursor rows a b l c)]) 1 ⟨1, [.val (.int .i64 m), .val (.int .i64 m2), .b true, .b false, .b false, .int a', .int (b+1), .int (c+1), .b true, .int (l + 1), .b true], []⟩) =
    some (.normal, [some (.sl 1 rows), some (I t), some (.pt 0 0)], [some (.box (cursor rows a' (b + 1) (l + 1) 0))], 1,
    [dec (IntKind.i64.wrap (l + 1) = l + 1), unitOf 50 [.sl 1 rows, I a] == 10, dec (IntKind.i64.wrap (c + 1) = c + 1), dec (IntKind.i64.wrap (b + 1) = b + 1), dec (IntKind.i64.wrap (a + ↑(sizeOf' 50 [.sl 1 rows, I a])) = a'), !((sizeOf' 50 [.sl 1 rows, I a] : Int) == 0), dec (SizedP 50 [.sl 1 rows, I a]), true,
     decide (a < m2), dec (CallP Tryd.prog .min #[3, 3] 3 #[false, false] [.int .i64 m, .int .i64 rows.length] (.int .i64 m2)), dec (CallP Tryd.prog .max #[3, 3] 3 #[false, true] [.int .i64 t, .int .i64 0] (.int .i64 m))]) := by kernel_rfl
theorem place_last (rows : List (List AV)) (t a b l c : Int) (m m2 : Int) : lastC Tryd.prog [.tmp 4, .tmp 5] 0 (lastR Tryd.prog 29 callR34 noPu 3000 0 tl34 (runCode Tryd.prog 29 callR34 noPu 3000 lp34 (triM (placeL rows t)) (triO [.box (cursor rows a b l c)]) 1 ⟨1, [.val (.int .i64 m), .val (.int .i64 m2), .b false, .b true], []⟩)) =
    some (.tu [I l, I c], [], [!decide (a < m2), dec (CallP Tryd.prog .min #[3, 3] 3 #[false, false] [.int .i64 m, .int .i64 rows.length] (.int .i64 m2)), dec (CallP Tryd.prog .max #[3, 3] 3 #[false, true] [.int .i64 t, .int .i64 0] (.int .i64 m))]) := by kernel_rfl

/-- a line and a column, counted from a place on -/
noncomputable def placeF (bs : List Nat) (t : Nat) : Nat → Nat → Nat → Nat → Nat × Nat
  | 0, _, l, c => (l, c)
  | k + 1, a, l, c => if a < t then (if unitOf 50 [.sl 1 (rowsB bs), I a] = 10 then placeF bs t k (a + sizeOf' 50 [.sl 1 (rowsB bs), I a]) (l + 1) 0 else placeF bs t k (a + sizeOf' 50 [.sl 1 (rowsB bs), I a]) l (c + 1)) else (l, c)
noncomputable def placeOf (bs : List Nat) (t : Nat) : Nat × Nat := placeF bs t t 0 1 0
theorem wrap64 {z : Int} (h0 : -9223372036854775808 ≤ z) (h1 : z ≤ 9223372036854775807) : IntKind.i64.wrap z = z := wrap_i64 h0 h1
theorem rows1_bytes {bs : List Nat} (h : bs.length ≤ 100000) : Rows1 (rowsB bs) := ⟨by
  unfold rowsOne rowsB
  rw [List.all_eq_true]
  intro r hr
  obtain ⟨b, _, rfl⟩ := List.mem_map.1 hr
  rfl, pure_bytes bs, by simp [rowsB]; exact h⟩
theorem place_ok (bs : List Nat) (hb : ∀ b ∈ bs, b < 256) (hl : bs.length ≤ 100000) (t : Nat) (ht : t ≤ bs.length) : ARet Tryd.prog 34 [.sl 1 (rowsB bs), I t] [] [] (.tu [I (placeOf bs t).1, I (placeOf bs t).2]) [] := by
  have hlen : (rowsB bs).length = bs.length := by simp [rowsB]
  have hmax : CallP Tryd.prog .max #[3, 3] 3 #[false, true] [.int .i64 t, .int .i64 0] (.int .i64 t) := maxP (by omega)
  have hmin : CallP Tryd.prog .min #[3, 3] 3 #[false, false] [.int .i64 t, .int .i64 (rowsB bs).length] (.int .i64 t) := minP (by rw [hlen]; omega)
  have hren : ∀ f, renL f (placeL (rowsB bs) t) = [some (.sl 1 (rowsB bs)), some (I t), some (.pt (f 0) 0)] := fun f => by simp [renL, placeL, AV.ren, renRows_pure _ _ (pure_bytes bs)]
  have hrenO : ∀ f (a b l c : Int), renO f [.box (cursor (rowsB bs) a b l c)] = [some (.box (cursor (rowsB bs) a b l c))] := fun f a b l c => by simp [renO, Ob.ren, cursor, renVals, AV.ren, renRows_pure _ _ (pure_bytes bs)]
  refine aret_loop callR34_ok mixed (pu := noPu) (lf := 3000) (fn := Tryd.f34) (hs := hd34) (id := 0) (c := lp34) (B := tl34) rfl rfl rfl (Nat.le_of_ble_eq_true rfl) rfl rfl
    (ι := Nat × Nat × Nat × Nat) (fun _ => placeL (rowsB bs) t) (fun x => [.box (cursor (rowsB bs) x.1 x.2.1 x.2.2.1 x.2.2.2)])
    (fun x => x.1 ≤ bs.length + 4 ∧ x.2.1 ≤ x.1 ∧ x.2.2.1 ≤ x.1 + 1 ∧ x.2.2.2 ≤ x.1 ∧ ∃ k, t ≤ x.1 + k ∧ placeF bs t k x.1 x.2.2.1 x.2.2.2 = placeOf bs t) (fun x => bs.length + 4 - x.1) (0, 0, 1, 0)
    ⟨by simp, by simp, by simp, by simp, t, by simp, rfl⟩ ?_ ?_
  · exact head_of (L' := placeL (rowsB bs) t) (place_head (rowsB bs) t) (ac (dec_true.2 ⟨_, rfl, rows1_bytes hl⟩) rfl) rfl (hren _) (hrenO _ _ _ _ _)
  · rintro ⟨a, b, l, c⟩ ⟨h1, h2, h3, h4, k, h5, h6⟩
    simp only at h1 h2 h3 h4 h5 h6 ⊢
    by_cases ha : a < t
    · left
      have hs : SizedP 50 [.sl 1 (rowsB bs), I a] := ⟨at_sized bs hb a (by omega), by
        have := pure_arg bs
        simp only [pureVals, Bool.and_eq_true] at this ⊢
        exact ⟨this.1, rfl, trivial⟩⟩
      obtain ⟨g1, g2, _⟩ := sized_spec hs.1
      obtain ⟨k, rfl⟩ : ∃ j, k = j + 1 := ⟨k - 1, by omega⟩
      simp only [placeF, if_pos ha] at h6
      by_cases hu : unitOf 50 [.sl 1 (rowsB bs), I a] = 10
      · rw [if_pos hu] at h6
        refine ⟨(a + sizeOf' 50 [.sl 1 (rowsB bs), I a], b + 1, l + 1, 0), ⟨by simp only; omega, by simp only; omega, by simp only; omega, by simp only; omega, k, by simp only; omega, h6⟩, by simp only; omega, ?_⟩
        refine step_of (L' := placeL (rowsB bs) t) (place_line (rowsB bs) t a b l c ((a + sizeOf' 50 [.sl 1 (rowsB bs), I a] : Nat) : Int) t t) ?_ rfl (hren _) (hrenO _ _ _ _ _)
        exact ac (dec_true.2 (wrap64 (by omega) (by omega))) (ac (by rw [hu]; rfl) (ac (dec_true.2 (wrap64 (by omega) (by omega))) (ac (dec_true.2 (wrap64 (by omega) (by omega))) (ac (dec_true.2 ((wrap64 (by omega) (by omega)).trans (by omega)))
          (ac (by simp; omega) (ac (dec_true.2 hs) (ac rfl (ac (decide_eq_true (by omega)) (ac (dec_true.2 hmin) (ac (dec_true.2 hmax) rfl))))))))))
      · rw [if_neg hu] at h6
        refine ⟨(a + sizeOf' 50 [.sl 1 (rowsB bs), I a], b + 1, l, c + 1), ⟨by simp only; omega, by simp only; omega, by simp only; omega, by simp only; omega, k, by simp only; omega, h6⟩, by simp only; omega, ?_⟩
        refine step_of (L' := placeL (rowsB bs) t) (place_step (rowsB bs) t a b l c ((a + sizeOf' 50 [.sl 1 (rowsB bs), I a] : Nat) : Int) t t) ?_ rfl (hren _) (hrenO _ _ _ _ _)
        exact (ac (by simp [hu]) (ac (dec_true.2 (wrap64 (by omega) (by omega))) (ac (dec_true.2 (wrap64 (by omega) (by omega))) (ac (dec_true.2 ((wrap64 (by omega) (by omega)).trans (by omega)))
          (ac (by simp; omega) (ac (dec_true.2 hs) (ac rfl (ac (decide_eq_true (by omega)) (ac (dec_true.2 hmin) (ac (dec_true.2 hmax) rfl))))))))))
    · right
      have h7 : placeOf bs t = (l, c) := by
        rw [← h6]
        cases k with
        | zero => rfl
        | succ k => simp only [placeF, if_neg ha]
      rw [h7]
      exact last_of (obs := []) (place_last (rowsB bs) t a b l c t t) (ac (nd (by omega)) (ac (dec_true.2 hmin) (ac (dec_true.2 hmax) rfl))) rfl
end Go.Proofs.YtifnhnkogcgnaaaDoor
