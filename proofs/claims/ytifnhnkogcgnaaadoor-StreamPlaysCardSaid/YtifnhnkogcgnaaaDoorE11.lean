/- a stream's Hidden and Seen. -/
import Derived.Test.YtifnhnkogcgnaaaDoorE10
namespace Go.Proofs.YtifnhnkogcgnaaaDoor
open Go.Am
noncomputable def hd10 : List Code := [sq1 (bodyOf 10), sq1 (sq2 (bodyOf 10))]
noncomputable def h10 : Code := sq1 (sq1 (sq2 (sq2 (bodyOf 10))))
noncomputable def lp10 : Code := inn (sq2 (sq1 (sq2 (sq2 (bodyOf 10)))))
noncomputable def tl10 : Code := sq2 (sq2 (sq2 (bodyOf 10)))
def seenL (bs : List Nat) (l : List Tok) (q : List (List AV)) (s : AV) (i : Int) : Am.Loc := [(0, strm bs l q), (2, s), (10, .sl 1 (rowsI (seenF 0 l))), (11, I (rowsI (seenF 0 l)).length), (12, I i)]
theorem hid_ab (bs : List Nat) (l : List Tok) (q : List (List AV)) (z a b : Nat) : outC (run12 12 [strm bs l q, I z] .e 0 ⟨0, [.b false, .b false, .b false, .b true, .int (z - 1 : Nat), .row [I a], .int (a + 1 : Nat), .b true, .row [I b], .cut, .b true], []⟩) = some (.sl 4 (((toks l).drop (a + 1)).take (b - (a + 1))), [], [dec (CloneArg 4 [.sl 4 (((toks l).drop (a + 1)).take (b - (a + 1)))]), true && dec ((a + 1) ≤ b ∧ b ≤ b ∧ b ≤ (toks l).length), true && dec ((rowsI (seenF 0 l))[z]? = some [I b]), decide ((z : Int) < (rowsI (seenF 0 l)).length), dec (IntKind.i64.wrap ((a : Int) + 1) = (a + 1 : Nat)), true && dec ((rowsI (seenF 0 l))[z - 1]? = some [I a]), dec (IntKind.i64.wrap ((z : Int) - 1) = (z - 1 : Nat)), decide ((z : Int) > 0), !decide ((z : Int) ≥ q.length), true, true]) := by kernel_rfl
theorem hid_an (bs : List Nat) (l : List Tok) (q : List (List AV)) (z a : Nat) : outC (run12 12 [strm bs l q, I z] .e 0 ⟨0, [.b false, .b false, .b false, .b true, .int (z - 1 : Nat), .row [I a], .int (a + 1 : Nat), .b false, .cut, .b true], []⟩) = some (.sl 4 (((toks l).drop (a + 1)).take ((toks l).length - (a + 1))), [], [dec (CloneArg 4 [.sl 4 (((toks l).drop (a + 1)).take ((toks l).length - (a + 1)))]), true && dec ((a + 1) ≤ (toks l).length ∧ (toks l).length ≤ (toks l).length ∧ (toks l).length ≤ (toks l).length), !decide ((z : Int) < (rowsI (seenF 0 l)).length), dec (IntKind.i64.wrap ((a : Int) + 1) = (a + 1 : Nat)), true && dec ((rowsI (seenF 0 l))[z - 1]? = some [I a]), dec (IntKind.i64.wrap ((z : Int) - 1) = (z - 1 : Nat)), decide ((z : Int) > 0), !decide ((z : Int) ≥ q.length), true, true]) := by kernel_rfl
theorem hid_0b (bs : List Nat) (l : List Tok) (q : List (List AV)) (z b : Nat) : outC (run12 12 [strm bs l q, I z] .e 0 ⟨0, [.b false, .b false, .b false, .b false, .b true, .row [I b], .cut, .b true], []⟩) = some (.sl 4 (((toks l).drop 0).take (b - 0)), [], [dec (CloneArg 4 [.sl 4 (((toks l).drop 0).take (b - 0))]), true && dec (0 ≤ b ∧ b ≤ b ∧ b ≤ (toks l).length), true && dec ((rowsI (seenF 0 l))[z]? = some [I b]), decide ((z : Int) < (rowsI (seenF 0 l)).length), !decide ((z : Int) > 0), !decide ((z : Int) ≥ q.length), true, true]) := by kernel_rfl
theorem hid_0n (bs : List Nat) (l : List Tok) (q : List (List AV)) (z : Nat) : outC (run12 12 [strm bs l q, I z] .e 0 ⟨0, [.b false, .b false, .b false, .b false, .b false, .cut, .b true], []⟩) = some (.sl 4 (((toks l).drop 0).take ((toks l).length - 0)), [], [dec (CloneArg 4 [.sl 4 (((toks l).drop 0).take ((toks l).length - 0))]), true && dec (0 ≤ (toks l).length ∧ (toks l).length ≤ (toks l).length ∧ (toks l).length ≤ (toks l).length), !decide ((z : Int) < (rowsI (seenF 0 l)).length), !decide ((z : Int) > 0), !decide ((z : Int) ≥ q.length), true, true]) := by kernel_rfl
theorem seen_s0 (bs : List Nat) (l : List Tok) (q : List (List AV)) (z i : Nat) (ty ch fr to : Int) : outR [0, 2, 10, 11, 12] [1] (runCode Tryd.prog 29 base noPu 3000 lp10 (triM (seenL bs l q nilS z)) (triO []) 0 ⟨0, [.b true, .row [I i], .row [I ty, I ch, I fr, I to], .int (z + 1 : Nat), .b true], []⟩) = some (.normal, [some (strm bs l q), some (.sr 1 4 0 1), some (.sl 1 (rowsI (seenF 0 l))), some (I (rowsI (seenF 0 l)).length), some (I (z + 1 : Nat))], [some (.row 43 4 [[I ty, I ch, I fr, I to]])], 2, [dec (IntKind.i64.wrap ((z : Int) + 1) = (z + 1 : Nat)), true, true && dec ((toks l)[i]? = some [I ty, I ch, I fr, I to]), true && dec ((rowsI (seenF 0 l))[z]? = some [I i]), decide ((z : Int) < (rowsI (seenF 0 l)).length)]) := by kernel_rfl
theorem seen_s1 (bs : List Nat) (l : List Tok) (q : List (List AV)) (z i : Nat) (ty ch fr to : Int) (k : Nat) (r : List (List AV)) : outR [0, 2, 10, 11, 12] [2] (runCode Tryd.prog 29 base noPu 3000 lp10 (triM (seenL bs l q (.sr 0 4 0 k) z)) (triO [.row 43 4 r]) 1 ⟨1, [.b true, .row [I i], .row [I ty, I ch, I fr, I to], .int (z + 1 : Nat), .b true], []⟩) = some (.normal, [some (strm bs l q), some (.sr 2 4 0 (k + 1)), some (.sl 1 (rowsI (seenF 0 l))), some (I (rowsI (seenF 0 l)).length), some (I (z + 1 : Nat))], [some (.row 43 4 (r.take k ++ [[I ty, I ch, I fr, I to]]))], 3, [dec (IntKind.i64.wrap ((z : Int) + 1) = (z + 1 : Nat)), (true && Nat.ble k r.length) && (true && Nat.ble ((k + 1) * 32) 140737488355328 && Nat.ble (k + 1) 9223372036854775807), true && dec ((toks l)[i]? = some [I ty, I ch, I fr, I to]), true && dec ((rowsI (seenF 0 l))[z]? = some [I i]), decide ((z : Int) < (rowsI (seenF 0 l)).length)]) := by kernel_rfl
theorem seen_l0 (bs : List Nat) (l : List Tok) (q : List (List AV)) (z : Nat) : lastC Tryd.prog [.tmp 2] 0 (lastR Tryd.prog 29 base noPu 3000 0 tl10 (runCode Tryd.prog 29 base noPu 3000 lp10 (triM (seenL bs l q nilS z)) (triO []) 0 ⟨0, [.b false, .b true], []⟩)) = some (nilS, [], [!decide ((z : Int) < (rowsI (seenF 0 l)).length)]) := by kernel_rfl
theorem seen_l1 (bs : List Nat) (l : List Tok) (q : List (List AV)) (z k : Nat) (r : List (List AV)) : lastC Tryd.prog [.tmp 2] 1 (lastR Tryd.prog 29 base noPu 3000 0 tl10 (runCode Tryd.prog 29 base noPu 3000 lp10 (triM (seenL bs l q (.sr 0 4 0 k) z)) (triO [.row 43 4 r]) 1 ⟨1, [.b false, .b true], []⟩)) = some (.sr 0 4 0 k, [some (.row 43 4 r)], [!decide ((z : Int) < (rowsI (seenF 0 l)).length)]) := by kernel_rfl
theorem seen_head (bs : List Nat) (l : List Tok) (q : List (List AV)) : outR [0, 2, 10, 11, 12] [] (runL Tryd.prog 29 base noPu 3000 (hd10 ++ [h10]) (argT 0 [strm bs l q] .e) .e 0 ⟨0, [.b false, .b true], []⟩) = some (.normal, [some (strm bs l q), some nilS, some (.sl 1 (rowsI (seenF 0 l))), some (I (rowsI (seenF 0 l)).length), some (I 0)], [], 0, [true]) := by kernel_rfl

/-- what is hidden ahead of an item: from where to where -/
def hidAt (l : List Tok) (k : Nat) : Nat × Nat := ((match k with
  | 0 => 0
  | j + 1 => match (seenF 0 l)[j]? with
    | some a => a + 1
    | none => 0), match (seenF 0 l)[k]? with
  | some b => b
  | none => l.length)
theorem toks_len (l : List Tok) : (toks l).length = l.length := by simp [toks]
theorem toks_piece (l : List Tok) (p n : Nat) : ((toks l).drop p).take n = toks ((l.drop p).take n) := by simp [toks, List.map_drop, List.map_take]
theorem seenF_ge : ∀ (l : List Tok) (i0 : Nat), ∀ i ∈ seenF i0 l, i0 ≤ i
  | [], _, i, h => by cases h
  | t :: ts, i0, i, h => by
    simp only [seenF] at h
    have := seenF_ge ts (i0 + 1) i
    split at h
    · rcases List.mem_cons.1 h with rfl | h
      · exact Nat.le_refl _
      · have := this h; omega
    · have := this h; omega
theorem seenF_lt : ∀ (l : List Tok) (i0 j a b : Nat), (seenF i0 l)[j]? = some a → (seenF i0 l)[j + 1]? = some b → a < b
  | [], i0, j, a, b, h, _ => by simp [seenF] at h
  | t :: ts, i0, j, a, b, h, k => by
    simp only [seenF] at h k
    split at h
    · rename_i hc
      rw [if_pos hc] at k
      cases j with
      | zero =>
        simp at h k
        subst h
        have := seenF_ge ts (i0 + 1) b (List.mem_of_getElem? k)
        omega
      | succ j => exact seenF_lt ts (i0 + 1) j a b (by simpa using h) (by simpa using k)
    · rename_i hc
      rw [if_neg hc] at k
      exact seenF_lt ts (i0 + 1) j a b h k
variable {bs : List Nat} {l : List Tok} {q : List (List AV)}
theorem seen_at {k i : Nat} (h : (seenF 0 l)[k]? = some i) : i < l.length := by
  obtain ⟨_, t, ht, _⟩ := seenF_get l 0 k i h
  rw [Nat.sub_zero] at ht
  exact (List.getElem?_eq_some_iff.1 ht).1
theorem run12_ok : CallOk Tryd.prog run12 := runOne_ok (known1_ok (clone_known clone30) base_ok) mixed _ _
theorem rows1_take {l : List Tok} (h : l.length ≤ 400) (p n : Nat) : Rows1 (((toks l).drop p).take n) := by
  rw [toks_piece]
  exact rows1_toks (by simp; omega)
theorem hidden_ok (hn : l.length ≤ 400) (hq : q.length = (seenF 0 l).length + 1) {k : Nat} (hk : k ≤ (seenF 0 l).length) : ARet Tryd.prog 12 [strm bs l q, I k] [] [] (.sl 4 (((toks l).drop (hidAt l k).1).take ((hidAt l k).2 - (hidAt l k).1))) [] := by
  have hsl := seenF_len l 0
  have hrl := rowsI_len (seenF 0 l)
  have htl := toks_len l
  have pr : ∀ {k i : Nat}, (seenF 0 l)[k]? = some i → (true && dec ((rowsI (seenF 0 l))[k]? = some [I i])) = true := fun h => by rw [Bool.true_and]; exact dec_true.2 (rowI_at h)
  have pc : ∀ p n, dec (CloneArg 4 [.sl 4 (((toks l).drop p).take n)]) = true := fun p n => dec_true.2 ⟨_, rfl, rows1_take hn p n⟩
  have tr : ∀ {p : Prop}, p → (true && dec p) = true := fun h => by rw [Bool.true_and]; exact dec_true.2 h
  cases k with
  | zero =>
    by_cases h : 0 < (seenF 0 l).length
    · obtain ⟨b, hb⟩ : ∃ i, (seenF 0 l)[0]? = some i := ⟨_, List.getElem?_eq_getElem h⟩
      have hbl := seen_at hb
      have e : hidAt l 0 = (0, b) := by simp only [hidAt, hb]
      rw [e]
      exact aret_of_run (obs := []) run12_ok (hid_0b bs l q 0 b) (ac (pc _ _) (ac (tr ⟨Nat.zero_le _, Nat.le_refl _, by omega⟩) (ac (pr hb) (ac (decide_eq_true (by omega)) (ac (nd (by omega)) (ac (nd (by omega)) (ac rfl (ac rfl rfl))))))))
    · have e : hidAt l 0 = (0, (toks l).length) := by
        have : (seenF 0 l)[0]? = none := List.getElem?_eq_none (by omega)
        simp only [hidAt, this, htl]
      rw [e]
      exact aret_of_run (obs := []) run12_ok (hid_0n bs l q 0) (ac (pc _ _) (ac (tr ⟨Nat.zero_le _, Nat.le_refl _, Nat.le_refl _⟩) (ac (nd (by omega)) (ac (nd (by omega)) (ac (nd (by omega)) (ac rfl (ac rfl rfl)))))))
  | succ j =>
    obtain ⟨a, ha⟩ : ∃ i, (seenF 0 l)[j]? = some i := ⟨_, List.getElem?_eq_getElem (by omega)⟩
    have hal := seen_at ha
    have w1 : dec (IntKind.i64.wrap (((j + 1 : Nat) : Int) - 1) = (j + 1 - 1 : Nat)) = true := dec_true.2 ((wrap64 (by omega) (by omega)).trans (by omega))
    have w2 : dec (IntKind.i64.wrap ((a : Int) + 1) = (a + 1 : Nat)) = true := dec_true.2 ((wrap64 (by omega) (by omega)).trans (by omega))
    by_cases h : j + 1 < (seenF 0 l).length
    · obtain ⟨b, hb⟩ : ∃ i, (seenF 0 l)[j + 1]? = some i := ⟨_, List.getElem?_eq_getElem h⟩
      have hbl := seen_at hb
      have hab := seenF_lt l 0 j a b ha hb
      have e : hidAt l (j + 1) = (a + 1, b) := by simp only [hidAt, ha, hb]
      rw [e]
      exact aret_of_run (obs := []) run12_ok (hid_ab bs l q (j + 1) a b) (ac (pc _ _) (ac (tr ⟨by omega, Nat.le_refl _, by omega⟩) (ac (pr hb) (ac (decide_eq_true (by omega)) (ac w2 (ac (pr (k := j) ha) (ac w1 (ac (decide_eq_true (by omega)) (ac (nd (by omega)) (ac rfl (ac rfl rfl)))))))))))
    · have e : hidAt l (j + 1) = (a + 1, (toks l).length) := by
        have : (seenF 0 l)[j + 1]? = none := List.getElem?_eq_none (by omega)
        simp only [hidAt, ha, this, htl]
      rw [e]
      exact aret_of_run (obs := []) run12_ok (hid_an bs l q (j + 1) a) (ac (pc _ _) (ac (tr ⟨by omega, Nat.le_refl _, Nat.le_refl _⟩) (ac (nd (by omega)) (ac w2 (ac (pr (k := j) ha) (ac w1 (ac (decide_eq_true (by omega)) (ac (nd (by omega)) (ac rfl (ac rfl rfl))))))))))
/-- the rows of the tokens that are seen -/
def seenAt (l : List Tok) (k : Nat) : List AV := match (seenF 0 l)[k]? with
  | some i => match l[i]? with
    | some t => tokRow t
    | none => []
  | none => []
def seenR (l : List Tok) (n : Nat) : List (List AV) := (List.range n).map (seenAt l)
theorem seenR_succ (l : List Tok) (k : Nat) : seenR l (k + 1) = seenR l k ++ [seenAt l k] := by simp [seenR, List.range_succ]
theorem seenR_len (l : List Tok) (k : Nat) : (seenR l k).length = k := by simp [seenR]
theorem pure_seenR (l : List Tok) (k : Nat) : pureRows (seenR l k) = true := pure_rows fun r hr => by
  obtain ⟨j, _, rfl⟩ := List.mem_map.1 hr
  unfold seenAt
  split
  · split <;> rfl
  · rfl
def slotS : Nat → AV
  | 0 => nilS
  | j + 1 => .sr 0 4 0 (j + 1)
def obS (l : List Tok) : Nat → List Ob
  | 0 => []
  | j + 1 => [.row 43 4 (seenR l (j + 1))]
theorem seen_raw (hn : l.length ≤ 400) (hp : pureRows q = true) (n : Nat) (hnn : n = (seenF 0 l).length) : ARet Tryd.prog 10 [strm bs l q] [] [] (slotS n) (obS l n) := by
  have hsl := seenF_len l 0
  have hrl := rowsI_len (seenF 0 l)
  have hren : ∀ f s i, renL f (seenL bs l q s i) = [some (strm bs l q), some (s.ren f), some (.sl 1 (rowsI (seenF 0 l))), some (I (rowsI (seenF 0 l)).length), some (I i)] := fun f s i => by
    have := ren_pure f _ (pure_strm (bs := bs) (l := l) hp)
    simp [renL, seenL, AV.ren, renRows_pure _ _ (pure_rowsI _), this]
  have hrenO : ∀ f k, renO f [.row 43 4 (seenR l k)] = [some (.row 43 4 (seenR l k))] := fun f k => by simp [renO, Ob.ren, renRows_pure _ _ (pure_seenR l k)]
  refine aret_loop2 base_ok mixed (pu := noPu) (lf := 3000) (fn := Tryd.f10) (hs := hd10) (H := h10) (id := 0) (c := lp10) (B := tl10) rfl rfl rfl (Nat.le_of_ble_eq_true rfl) (by cases n <;> rfl) (by
      cases n with
      | zero => rfl
      | succ k => simp [obS, Ob.und, undRows_pure 1 _ (pure_seenR l (k + 1))])
    (ι := Nat) (fun j => seenL bs l q (slotS j) j) (fun j => obS l j) (fun j => j ≤ n) (fun j => n - j) 0 (Nat.zero_le _) ?_ ?_
  · exact head_of (L' := seenL bs l q (slotS 0) (0 : Nat)) (seen_head bs l q) (ac rfl rfl) rfl (by rw [hren]; rfl) rfl
  · intro j hj
    by_cases hjn : j < n
    · left
      refine ⟨j + 1, hjn, by omega, ?_⟩
      obtain ⟨i, hi⟩ : ∃ i, (seenF 0 l)[j]? = some i := ⟨_, List.getElem?_eq_getElem (by omega)⟩
      obtain ⟨_, t, ht, hc⟩ := seenF_get l 0 j i hi
      rw [Nat.sub_zero] at ht
      have p1 : decide ((j : Int) < (rowsI (seenF 0 l)).length) = true := decide_eq_true (by omega)
      have p2 : (true && dec ((rowsI (seenF 0 l))[j]? = some [I i])) = true := by rw [Bool.true_and]; exact dec_true.2 (rowI_at hi)
      have p3 : (true && dec ((toks l)[i]? = some [I t.ty, I t.ch, I t.fr, I t.to])) = true := by rw [Bool.true_and]; exact dec_true.2 (tokRow_at ht)
      have p5 : dec (IntKind.i64.wrap ((j : Int) + 1) = (j + 1 : Nat)) = true := dec_true.2 ((wrap64 (by omega) (by omega)).trans (by omega))
      have hit : seenAt l j = [I t.ty, I t.ch, I t.fr, I t.to] := by simp only [seenAt, hi, ht, tokRow]
      cases j with
      | zero =>
        refine step_of (L' := seenL bs l q (slotS 1) (1 : Nat)) (ob' := obS l 1) (seen_s0 bs l q 0 i t.ty t.ch t.fr t.to) (ac p5 (ac rfl (ac p3 (ac p2 (ac p1 rfl))))) rfl (by rw [hren]; rfl) ?_
        have e1 : seenR l 1 = [[I t.ty, I t.ch, I t.fr, I t.to]] := by rw [seenR_succ, hit]; rfl
        rw [← e1]
        exact hrenO _ 1
      | succ k =>
        refine step_of (L' := seenL bs l q (slotS (k + 1 + 1)) (k + 1 + 1 : Nat)) (ob' := obS l (k + 1 + 1)) (seen_s1 bs l q (k + 1) i t.ty t.ch t.fr t.to (k + 1) (seenR l (k + 1))) (ac p5 (ac (andt (andt rfl (nle (by rw [seenR_len]; exact Nat.le_refl _))) (andt (andt rfl (nle (by omega))) (nle (by omega)))) (ac p3 (ac p2 (ac p1 rfl))))) rfl (by rw [hren]; rfl) ?_
        have e1 : seenR l (k + 1 + 1) = (seenR l (k + 1)).take (k + 1) ++ [[I t.ty, I t.ch, I t.fr, I t.to]] := by
          rw [List.take_of_length_le (by rw [seenR_len]; exact Nat.le_refl _), seenR_succ l (k + 1), hit]
        rw [← e1]
        exact hrenO _ (k + 1 + 1)
    · right
      obtain rfl : j = n := by omega
      have px : (!decide ((j : Int) < (rowsI (seenF 0 l)).length)) = true := nd (by omega)
      cases j with
      | zero => exact last_of (seen_l0 bs l q 0) (ac px rfl) rfl
      | succ k => exact last_of (seen_l1 bs l q (k + 1) (k + 1) (seenR l (k + 1))) (ac px rfl) rfl
theorem seen_ok (hn : l.length ≤ 400) (hp : pureRows q = true) : ARet Tryd.prog 10 [strm bs l q] [] [] (.sl 4 (seenR l (seenF 0 l).length)) [] := by
  have h := seen_raw (bs := bs) hn hp _ rfl
  generalize (seenF 0 l).length = n at h
  cases n with
  | zero => exact aret_weak h fun m γ x hx => weak_nil x hx
  | succ k => exact aret_slice h (o := 0) rfl (by rw [seenR_len]) (pure_seenR _ _)
end Go.Proofs.YtifnhnkogcgnaaaDoor
