/- stream.which with New's first closure: the places of the tokens that are seen. -/
import Derived.Test.YtifnhnkogcgnaaaDoorE5
namespace Go.Proofs.YtifnhnkogcgnaaaDoor
open Go.Am
noncomputable def hd31 : List Code := [sq1 (bodyOf 31)]
noncomputable def h31 : Code := sq1 (sq1 (sq2 (bodyOf 31)))
noncomputable def lp31 : Code := inn (sq2 (sq1 (sq2 (bodyOf 31))))
noncomputable def tl31 : Code := sq2 (sq2 (bodyOf 31))
def f32 : AV := .fn (.func 32) [] []
def nilS : AV := .v (.slice none 0 0)
def whichL (rows : List (List AV)) (s : AV) (i : Int) : Am.Loc := [(1, f32), (4, s), (7, .sl 4 rows), (8, I rows.length), (9, I i)]
theorem which_s0 (rows : List (List AV)) (z : Nat) (ty ch fr to : Int) : outR [1, 4, 7, 8, 9] [] (runCode Tryd.prog 23 base noPu 3000 lp31 (triM (whichL rows nilS z)) (triO []) 0 ⟨0, [.b true, .row [I ty, I ch, I fr, I to], .b false, .int (z + 1 : Nat), .b true], []⟩) = some (.normal, [some f32, some (nilS), some (.sl 4 rows), some (I rows.length), some (I (z + 1 : Nat))], [], 2, [dec (IntKind.i64.wrap ((z : Int) + 1) = (z + 1 : Nat)), !(ch == 0), true && dec (rows[z]? = some [I ty, I ch, I fr, I to]), decide ((z : Int) < rows.length)]) := by kernel_rfl
theorem which_t0 (rows : List (List AV)) (z : Nat) (ty ch fr to : Int) : outR [1, 4, 7, 8, 9] [3] (runCode Tryd.prog 23 base noPu 3000 lp31 (triM (whichL rows nilS z)) (triO []) 0 ⟨0, [.b true, .row [I ty, I ch, I fr, I to], .b true, .int (z + 1 : Nat), .b true], []⟩) = some (.normal, [some f32, some (.sr 3 1 0 1), some (.sl 4 rows), some (I rows.length), some (I (z + 1 : Nat))], [some (.row 3 1 [[I z]])], 4, [dec (IntKind.i64.wrap ((z : Int) + 1) = (z + 1 : Nat)), true, ch == 0, true && dec (rows[z]? = some [I ty, I ch, I fr, I to]), decide ((z : Int) < rows.length)]) := by kernel_rfl
theorem which_s1 (rows : List (List AV)) (z : Nat) (ty ch fr to : Int) (k : Nat) (q : List (List AV)) : outR [1, 4, 7, 8, 9] [0] (runCode Tryd.prog 23 base noPu 3000 lp31 (triM (whichL rows (.sr 0 1 0 k) z)) (triO [.row 3 1 q]) 1 ⟨1, [.b true, .row [I ty, I ch, I fr, I to], .b false, .int (z + 1 : Nat), .b true], []⟩) = some (.normal, [some f32, some (.sr 0 1 0 k), some (.sl 4 rows), some (I rows.length), some (I (z + 1 : Nat))], [some (.row 3 1 q)], 3, [dec (IntKind.i64.wrap ((z : Int) + 1) = (z + 1 : Nat)), !(ch == 0), true && dec (rows[z]? = some [I ty, I ch, I fr, I to]), decide ((z : Int) < rows.length)]) := by kernel_rfl
theorem which_t1 (rows : List (List AV)) (z : Nat) (ty ch fr to : Int) (k : Nat) (q : List (List AV)) : outR [1, 4, 7, 8, 9] [4] (runCode Tryd.prog 23 base noPu 3000 lp31 (triM (whichL rows (.sr 0 1 0 k) z)) (triO [.row 3 1 q]) 1 ⟨1, [.b true, .row [I ty, I ch, I fr, I to], .b true, .int (z + 1 : Nat), .b true], []⟩) = some (.normal, [some f32, some (.sr 4 1 0 (k + 1)), some (.sl 4 rows), some (I rows.length), some (I (z + 1 : Nat))], [some (.row 3 1 (q.take k ++ [[I z]]))], 5, [dec (IntKind.i64.wrap ((z : Int) + 1) = (z + 1 : Nat)), (true && Nat.ble k q.length) && (true && Nat.ble ((k + 1) * 8) 140737488355328 && Nat.ble (k + 1) 9223372036854775807), ch == 0, true && dec (rows[z]? = some [I ty, I ch, I fr, I to]), decide ((z : Int) < rows.length)]) := by kernel_rfl
theorem which_l0 (rows : List (List AV)) (z : Nat) : lastC Tryd.prog [.tmp 4] 0 (lastR Tryd.prog 23 base noPu 3000 0 tl31 (runCode Tryd.prog 23 base noPu 3000 lp31 (triM (whichL rows nilS z)) (triO []) 0 ⟨0, [.b false, .b true], []⟩)) = some (nilS, [], [!decide ((z : Int) < rows.length)]) := by kernel_rfl
theorem which_l1 (rows : List (List AV)) (z k : Nat) (q : List (List AV)) : lastC Tryd.prog [.tmp 4] 1 (lastR Tryd.prog 23 base noPu 3000 0 tl31 (runCode Tryd.prog 23 base noPu 3000 lp31 (triM (whichL rows (.sr 0 1 0 k) z)) (triO [.row 3 1 q]) 1 ⟨1, [.b false, .b true], []⟩)) = some (.sr 0 1 0 k, [some (.row 3 1 q)], [!decide ((z : Int) < rows.length)]) := by kernel_rfl
theorem which_head (rows : List (List AV)) : outR [1, 4, 7, 8, 9] [] (runL Tryd.prog 23 base noPu 3000 (hd31 ++ [h31]) (argT 0 [.sl 4 rows, f32] .e) .e 0 ⟨0, [.b true], []⟩) = some (.normal, [some f32, some nilS, some (.sl 4 rows), some (I rows.length), some (I 0)], [], 0, []) := by kernel_rfl

/-- the places of what is seen, from a place on -/
def seenF : Nat → List Tok → List Nat
  | _, [] => []
  | i, t :: ts => if t.ch = 0 then i :: seenF (i + 1) ts else seenF (i + 1) ts
def rowsI (l : List Nat) : List (List AV) := l.map fun (k : Nat) => [I k]
theorem pure_rowsI : ∀ l : List Nat, pureRows (rowsI l) = true
  | [] => rfl
  | t :: l => by
    have := pure_rowsI l
    simp only [rowsI] at this
    simp [rowsI, pureRows, pureVals, AV.pure, this]
def slotI : List Nat → AV
  | [] => nilS
  | a :: l => .sr 0 1 0 (a :: l).length
def obsI : List Nat → List Ob
  | [] => []
  | a :: l => [.row 3 1 (rowsI (a :: l))]
theorem seenF_len : ∀ (l : List Tok) (i : Nat), (seenF i l).length ≤ l.length
  | [], _ => Nat.le_refl _
  | t :: ts, i => by
    simp only [seenF]
    have := seenF_len ts (i + 1)
    split <;> simp <;> omega
theorem which_raw (l : List Tok) (hn : l.length ≤ 100000) (R : List Nat) (hR : R = seenF 0 l) : ARet Tryd.prog 31 [.sl 4 (toks l), f32] [] [] (slotI R) (obsI R) := by
  have hlen : (toks l).length = l.length := by simp [toks]
  have hren : ∀ f s i, renL f (whichL (toks l) s i) = [some f32, some (s.ren f), some (.sl 4 (toks l)), some (I (toks l).length), some (I i)] := fun f s i => by simp [renL, whichL, AV.ren, renRows_pure _ _ (pure_toks l), f32, renVals]
  have hrenO : ∀ f q, renO f [.row 3 1 (rowsI q)] = [some (.row 3 1 (rowsI q))] := fun f q => by simp [renO, Ob.ren, renRows_pure _ _ (pure_rowsI q)]
  have hRl : R.length ≤ 100000 := by rw [hR]; have := seenF_len l 0; omega
  refine aret_loop2 base_ok mixed (pu := noPu) (lf := 3000) (fn := Tryd.f31) (hs := hd31) (H := h31) (id := 0) (c := lp31) (B := tl31) rfl rfl rfl (Nat.le_of_ble_eq_true rfl) (by cases R <;> rfl) (by
      cases R with
      | nil => rfl
      | cons a R => simp [obsI, Ob.und, undRows_pure 1 _ (pure_rowsI (a :: R))])
    (ι := Nat × List Nat) (fun x => whichL (toks l) (slotI x.2) x.1) (fun x => obsI x.2)
    (fun x => x.1 ≤ l.length ∧ x.2 ++ seenF x.1 (l.drop x.1) = R) (fun x => l.length - x.1) (0, [])
    ⟨by simp, by simp [hR]⟩ ?_ ?_
  · exact head_of (L' := whichL (toks l) (slotI []) 0) (which_head (toks l)) rfl rfl (by rw [hren]; rfl) rfl
  · rintro ⟨i, acc⟩ ⟨h1, h2⟩
    simp only at h1 h2 ⊢
    by_cases hi : i < l.length
    · left
      have hd := List.drop_eq_getElem_cons hi
      rw [hd] at h2
      simp only [seenF] at h2
      generalize ht : l[i] = t at h2
      have hrow : (toks l)[i]? = some [I t.ty, I t.ch, I t.fr, I t.to] := by
        unfold toks
        rw [List.getElem?_map, List.getElem?_eq_getElem hi, ht]
        rfl
      have p1 : decide ((i : Int) < (toks l).length) = true := decide_eq_true (by omega)
      have p2 : (true && dec ((toks l)[i]? = some [I t.ty, I t.ch, I t.fr, I t.to])) = true := by rw [Bool.true_and]; exact dec_true.2 hrow
      have p3 : dec (IntKind.i64.wrap ((i : Int) + 1) = (i + 1 : Nat)) = true := dec_true.2 ((wrap64 (by omega) (by omega)).trans (by omega))
      by_cases hc : t.ch = 0
      · rw [if_pos hc] at h2
        have pc : (t.ch == 0) = true := by simp [hc]
        refine ⟨(i + 1, acc ++ [i]), ⟨by simp only; omega, by rw [← h2]; simp⟩, by simp only; omega, ?_⟩
        cases acc with
        | nil => exact step_of (L' := whichL (toks l) (slotI [i]) (i + 1 : Nat)) (which_t0 (toks l) i t.ty t.ch t.fr t.to) (ac p3 (ac rfl (ac pc (ac p2 (ac p1 rfl))))) rfl (by rw [hren]; rfl) (hrenO _ [i])
        | cons a acc =>
          have hk : (a :: acc).length ≤ 100000 := by
            have := congrArg List.length h2
            simp at this
            simp
            omega
          have e1 : rowsI (a :: acc ++ [i]) = (rowsI (a :: acc)).take (a :: acc).length ++ [[I i]] := by
            rw [List.take_of_length_le (by simp [rowsI])]
            simp [rowsI]
          refine step_of (L' := whichL (toks l) (slotI (a :: acc ++ [i])) (i + 1 : Nat)) (which_t1 (toks l) i t.ty t.ch t.fr t.to (a :: acc).length (rowsI (a :: acc))) (ac p3 (ac (andt (andt rfl (nle (by simp [rowsI]))) (andt (andt rfl (nle (by omega))) (nle (by omega)))) (ac pc (ac p2 (ac p1 rfl))))) rfl ?_ ?_
          · rw [hren]; simp [slotI, AV.ren, fsel]
          · show renO _ [Ob.row 3 1 (rowsI (a :: acc ++ [i]))] = _
            rw [hrenO, e1]
      · rw [if_neg hc] at h2
        have pc : (!(t.ch == 0)) = true := by simp [hc]
        refine ⟨(i + 1, acc), ⟨by simp only; omega, h2⟩, by simp only; omega, ?_⟩
        cases acc with
        | nil => exact step_of (L' := whichL (toks l) (slotI []) (i + 1 : Nat)) (which_s0 (toks l) i t.ty t.ch t.fr t.to) (ac p3 (ac pc (ac p2 (ac p1 rfl)))) rfl (by rw [hren]; rfl) rfl
        | cons a acc => exact step_of (L' := whichL (toks l) (slotI (a :: acc)) (i + 1 : Nat)) (which_s1 (toks l) i t.ty t.ch t.fr t.to (a :: acc).length (rowsI (a :: acc))) (ac p3 (ac pc (ac p2 (ac p1 rfl)))) rfl (by rw [hren]; rfl) (hrenO _ _)
    · right
      have hz : l.drop i = [] := List.drop_eq_nil_of_le (by omega)
      rw [hz] at h2
      simp only [seenF, List.append_nil] at h2
      rw [← h2]
      cases acc with
      | nil => exact last_of (which_l0 (toks l) i) (ac (nd (by omega)) rfl) rfl
      | cons a acc => exact last_of (which_l1 (toks l) i _ _) (ac (nd (by omega)) rfl) rfl
theorem which_ok (l : List Tok) (hn : l.length ≤ 100000) : ARet Tryd.prog 31 [.sl 4 (toks l), f32] [] [] (.sl 1 (rowsI (seenF 0 l))) [] := by
  have h := which_raw l hn (seenF 0 l) rfl
  generalize seenF 0 l = R at h
  cases R with
  | nil => exact aret_weak h fun m γ x hx => weak_nil x hx
  | cons a R => exact aret_slice h (o := 0) rfl (by simp [rowsI]) (pure_rowsI _)
end Go.Proofs.YtifnhnkogcgnaaaDoor
