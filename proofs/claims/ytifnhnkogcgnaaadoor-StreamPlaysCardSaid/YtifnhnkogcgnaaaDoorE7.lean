/- stream.New: what it makes of fair tokens, told as memory that is never written again; of others it makes nothing. -/
import Derived.Test.YtifnhnkogcgnaaaDoorE6
namespace Go.Proofs.YtifnhnkogcgnaaaDoor
open Go.Am
noncomputable def placeRes (bs : List Nat) : List AV → AV
  | [_, .v (.int _ z)] => .tu [I (placeOf bs z.toNat).1, I (placeOf bs z.toNat).2]
  | _ => .any
def PlaceArg (bs : List Nat) (args : List AV) : Prop := ∃ t : Nat, t ≤ bs.length ∧ args = [.sl 1 (rowsB bs), I t]
def pu8 (f : FuncId) : Bool := Nat.beq f 31 || Nat.beq f 34
noncomputable def callR8 (bs : List Nat) (l : List Tok) (b : Bool) : CallF :=
  known1 28 (fun args => args = [.sl 1 (rowsB bs), .sl 4 (toks l)]) (fun _ => .v (.bool b)) (known1 29 (CloneArg 1) theArg (known1 30 (CloneArg 4) theArg (known1 31 (fun args => args = [.sl 4 (toks l), f32]) (fun _ => .sl 1 (rowsI (seenF 0 l)))
    (runOne Tryd.prog noPu 3000 (known1 34 (PlaceArg bs) (placeRes bs) base)))))
noncomputable def hd8 : List Code := [sq1 (bodyOf 8), sq1 (sq2 (bodyOf 8)), sq1 (sq2 (sq2 (bodyOf 8))), sq1 (sq2 (sq2 (sq2 (bodyOf 8)))), sq1 (sq2 (sq2 (sq2 (sq2 (bodyOf 8)))))]
noncomputable def h8 : Code := sq1 (sq1 (sq2 (sq2 (sq2 (sq2 (sq2 (bodyOf 8)))))))
noncomputable def lp8 : Code := inn (sq2 (sq1 (sq2 (sq2 (sq2 (sq2 (sq2 (bodyOf 8))))))))
noncomputable def tl8 : Code := sq2 (sq2 (sq2 (sq2 (sq2 (sq2 (bodyOf 8))))))
def streamC (bs : List Nat) (l : List Tok) (items : AV) (at_ : Int) : List AV := [.sl 1 (rowsB bs), .sl 4 (toks l), items, .sl 1 (rowsI (seenF 0 l)), I at_]
def newL (bs : List Nat) (l : List Tok) (i : Int) : Am.Loc := [(0, .sl 1 (rowsB bs)), (6, .pt 1 0), (7, .fn (.func 33) [] [.pt 1 0]), (34, .sl 1 (rowsI (seenF 0 l))), (35, I (rowsI (seenF 0 l)).length), (36, I i)]
def itemRow (ty k c : Int) : List AV := [I ty, I k, I c, .v (.bool false), I k]
theorem new_head (bs : List Nat) (l : List Tok) : outR [0, 6, 7, 34, 35, 36] [0, 1] (runL Tryd.prog 66 (callR8 bs l true) noPu 3000 (hd8 ++ [h8]) (argT 0 [.sl 1 (rowsB bs), .sl 4 (toks l)] .e) .e 0 ⟨0, [.b true], []⟩) = some (.normal, [some (.sl 1 (rowsB bs)), some (.pt 1 0), some (.fn (.func 33) [] [.pt 1 0]), some (.sl 1 (rowsI (seenF 0 l))), some (I (rowsI (seenF 0 l)).length), some (I 0)], [some (.box (streamC bs l nilS 0)), some (.box [.pt 0 0])], 2, [dec ([.sl 4 (toks l), f32] = [.sl 4 (toks l), f32]), dec (CloneArg 4 [.sl 4 (toks l)]), dec (CloneArg 1 [.sl 1 (rowsB bs)]), dec ([AV.sl 1 (rowsB bs), .sl 4 (toks l)] = [.sl 1 (rowsB bs), .sl 4 (toks l)])]) := by kernel_rfl
theorem new_step0 (bs : List Nat) (l : List Tok) (z i : Nat) (ty ch fr to : Int) : outR [0, 6, 7, 34, 35, 36] [0, 1, 3] (runCode Tryd.prog 66 (callR8 bs l true) noPu 3000 lp8 (triM (newL bs l z)) (triO [.box (streamC bs l nilS 0), .box [.pt 0 0]]) 2 ⟨2, [.b true, .row [I i], .row [I ty, I ch, I fr, I to], .row [I ty, I ch, I fr, I to], .int (z + 1 : Nat), .b true], []⟩) = some (.normal, [some (.sl 1 (rowsB bs)), some (.pt 1 0), some (.fn (.func 33) [] [.pt 1 0]), some (.sl 1 (rowsI (seenF 0 l))), some (I (rowsI (seenF 0 l)).length), some (I (z + 1 : Nat))], [some (.box (streamC bs l (.sr 3 5 0 1) 0)), some (.box [.pt 0 0]), some (.row 52 5 [itemRow ty 0 (placeOf bs fr.toNat).2])], 4, [dec (IntKind.i64.wrap ((z : Int) + 1) = (z + 1 : Nat)), true, dec (PlaceArg bs [.sl 1 (rowsB bs), I fr]), true && dec ((toks l)[i]? = some [I ty, I ch, I fr, I to]), true && dec ((toks l)[i]? = some [I ty, I ch, I fr, I to]), true && dec ((rowsI (seenF 0 l))[z]? = some [I i]), decide ((z : Int) < (rowsI (seenF 0 l)).length)]) := by kernel_rfl
theorem new_step1 (bs : List Nat) (l : List Tok) (z i : Nat) (ty ch fr to : Int) (k : Nat) (q : List (List AV)) : outR [0, 6, 7, 34, 35, 36] [0, 1, 4] (runCode Tryd.prog 66 (callR8 bs l true) noPu 3000 lp8 (triM (newL bs l z)) (triO [.box (streamC bs l (.sr 2 5 0 k) 0), .box [.pt 0 0], .row 52 5 q]) 3 ⟨3, [.b true, .row [I i], .row [I ty, I ch, I fr, I to], .row [I ty, I ch, I fr, I to], .int (z + 1 : Nat), .b true], []⟩) = some (.normal, [some (.sl 1 (rowsB bs)), some (.pt 1 0), some (.fn (.func 33) [] [.pt 1 0]), some (.sl 1 (rowsI (seenF 0 l))), some (I (rowsI (seenF 0 l)).length), some (I (z + 1 : Nat))], [some (.box (streamC bs l (.sr 4 5 0 (k + 1)) 0)), some (.box [.pt 0 0]), some (.row 52 5 (q.take k ++ [itemRow ty k (placeOf bs fr.toNat).2]))], 5, [dec (IntKind.i64.wrap ((z : Int) + 1) = (z + 1 : Nat)), (true && Nat.ble k q.length) && (true && Nat.ble ((k + 1) * 40) 140737488355328 && Nat.ble (k + 1) 9223372036854775807), dec (PlaceArg bs [.sl 1 (rowsB bs), I fr]), true && dec ((toks l)[i]? = some [I ty, I ch, I fr, I to]), true && dec ((toks l)[i]? = some [I ty, I ch, I fr, I to]), true && dec ((rowsI (seenF 0 l))[z]? = some [I i]), decide ((z : Int) < (rowsI (seenF 0 l)).length)]) := by kernel_rfl
theorem new_last0 (bs : List Nat) (l : List Tok) (z : Nat) : lastC Tryd.prog [.tmp 4, .tmp 5] 4 (lastR Tryd.prog 66 (callR8 bs l true) noPu 3000 0 tl8 (runCode Tryd.prog 66 (callR8 bs l true) noPu 3000 lp8 (triM (newL bs l z)) (triO [.box (streamC bs l nilS 0), .box [.pt 0 0]]) 2 ⟨2, [.b false, .b true], []⟩)) = some (.tu [.pt 0 0, I 0], [some (.box (streamC bs l (.sr 3 5 0 1) 0)), some (.box [.pt 0 0]), some (.row 52 5 [itemRow 0 0 (placeOf bs ((rowsB bs).length : Int).toNat).2]), some (.row 52 5 [itemRow 0 0 (placeOf bs ((rowsB bs).length : Int).toNat).2])], [true, dec (PlaceArg bs [.sl 1 (rowsB bs), I (rowsB bs).length]), !decide ((z : Int) < (rowsI (seenF 0 l)).length)]) := by kernel_rfl
theorem new_last1 (bs : List Nat) (l : List Tok) (z k : Nat) (q : List (List AV)) : lastC Tryd.prog [.tmp 4, .tmp 5] 5 (lastR Tryd.prog 66 (callR8 bs l true) noPu 3000 0 tl8 (runCode Tryd.prog 66 (callR8 bs l true) noPu 3000 lp8 (triM (newL bs l z)) (triO [.box (streamC bs l (.sr 2 5 0 k) 0), .box [.pt 0 0], .row 52 5 q]) 3 ⟨3, [.b false, .b true], []⟩)) = some (.tu [.pt 0 0, I 0], [some (.box (streamC bs l (.sr 4 5 0 (k + 1)) 0)), some (.box [.pt 0 0]), some .dead, some (.row 52 5 [itemRow 0 k (placeOf bs ((rowsB bs).length : Int).toNat).2]), some (.row 52 5 (q.take k ++ [itemRow 0 k (placeOf bs ((rowsB bs).length : Int).toNat).2]))], [(true && Nat.ble k q.length) && (true && Nat.ble ((k + 1) * 40) 140737488355328 && Nat.ble (k + 1) 9223372036854775807), dec (PlaceArg bs [.sl 1 (rowsB bs), I (rowsB bs).length]), !decide ((z : Int) < (rowsI (seenF 0 l)).length)]) := by kernel_rfl
theorem new_no (bs : List Nat) (l : List Tok) : outC (runOne Tryd.prog noPu 3000 (callR8 bs l false) 8 [.sl 1 (rowsB bs), .sl 4 (toks l)] .e 0 ⟨0, [.b true], []⟩) = some (.tu [.v (.pointer none), I 2], [], [dec ([AV.sl 1 (rowsB bs), .sl 4 (toks l)] = [.sl 1 (rowsB bs), .sl 4 (toks l)])]) := by kernel_rfl

/-- the items' rows -/
noncomputable def itemAt (bs : List Nat) (l : List Tok) (k : Nat) : List AV := match (seenF 0 l)[k]? with
  | some i => match l[i]? with
    | some t => itemRow t.ty k (placeOf bs t.fr.toNat).2
    | none => []
  | none => itemRow 0 k (placeOf bs bs.length).2
noncomputable def itemsOf (bs : List Nat) (l : List Tok) (k : Nat) : List (List AV) := (List.range k).map (itemAt bs l)
theorem itemsOf_succ (bs : List Nat) (l : List Tok) (k : Nat) : itemsOf bs l (k + 1) = itemsOf bs l k ++ [itemAt bs l k] := by simp [itemsOf, List.range_succ]
theorem itemsOf_len (bs : List Nat) (l : List Tok) (k : Nat) : (itemsOf bs l k).length = k := by simp [itemsOf]
theorem pure_item (bs : List Nat) (l : List Tok) (k : Nat) : pureVals (itemAt bs l k) = true := by
  unfold itemAt
  split
  · split <;> rfl
  · rfl
theorem pure_rows {rows : List (List AV)} (h : ∀ r ∈ rows, pureVals r = true) : pureRows rows = true := by
  induction rows with
  | nil => rfl
  | cons r rs ih => simp only [pureRows, Bool.and_eq_true]; exact ⟨h r (by simp), ih fun q hq => h q (List.mem_cons_of_mem _ hq)⟩
theorem pure_items (bs : List Nat) (l : List Tok) (k : Nat) : pureRows (itemsOf bs l k) = true := pure_rows fun r hr => by
  obtain ⟨j, _, rfl⟩ := List.mem_map.1 hr
  exact pure_item bs l j
theorem seenF_get : ∀ (l : List Tok) (i0 j i : Nat), (seenF i0 l)[j]? = some i → i0 ≤ i ∧ ∃ t, l[i - i0]? = some t ∧ t.ch = 0
  | [], i0, j, i, h => by simp [seenF] at h
  | t :: ts, i0, j, i, h => by
    simp only [seenF] at h
    have next : ∀ {j : Nat}, (seenF (i0 + 1) ts)[j]? = some i → i0 ≤ i ∧ ∃ t', (t :: ts)[i - i0]? = some t' ∧ t'.ch = 0 := fun h => by
      obtain ⟨h1, t', h2, h3⟩ := seenF_get ts (i0 + 1) _ i h
      refine ⟨by omega, t', ?_, h3⟩
      rw [show i - i0 = (i - (i0 + 1)) + 1 from by omega]
      simpa using h2
    by_cases hc : t.ch = 0
    · rw [if_pos hc] at h
      cases j with
      | zero => simp at h; subst h; exact ⟨Nat.le_refl _, t, by simp, hc⟩
      | succ j => exact next (by simpa using h)
    · rw [if_neg hc] at h; exact next h
theorem fairF_mem {bs : List Nat} : ∀ {l : List Tok} {e : Int}, FairF bs e l → ∀ t ∈ l, 0 ≤ t.fr ∧ t.fr ≤ bs.length
  | [], _, _, t, h => by cases h
  | u :: us, e, h, t, ht => by
    rcases List.mem_cons.1 ht with rfl | ht
    · exact okAt_le h.1.2.2.2.2.2.2.1
    · exact fairF_mem h.2 t ht
def slotN : Nat → AV
  | 0 => nilS
  | j + 1 => .sr 2 5 0 (j + 1)
noncomputable def objN (bs : List Nat) (l : List Tok) : Nat → List Ob
  | 0 => []
  | j + 1 => [.row 52 5 (itemsOf bs l (j + 1))]
noncomputable def newB (bs : List Nat) (l : List Tok) (j : Nat) : List Ob := .box (streamC bs l (slotN j) 0) :: .box [.pt 0 0] :: objN bs l j
noncomputable def newO (bs : List Nat) (l : List Tok) : Nat → List Ob
  | 0 => [.box (streamC bs l (.sr 3 5 0 1) 0), .box [.pt 0 0], .row 52 5 [itemRow 0 0 (placeOf bs bs.length).2], .row 52 5 [itemRow 0 0 (placeOf bs bs.length).2]]
  | k + 1 => [.box (streamC bs l (.sr 4 5 0 (k + 2)) 0), .box [.pt 0 0], .dead, .row 52 5 [itemRow 0 (k + 1 : Nat) (placeOf bs bs.length).2], .row 52 5 (itemsOf bs l (k + 1) ++ [itemRow 0 (k + 1 : Nat) (placeOf bs bs.length).2])]
variable {bs : List Nat} {l : List Tok}
theorem callR8_ok (hb : ∀ b ∈ bs, b < 256) (hl : bs.length ≤ 100000) (hn : l.length ≤ 100000) (b : Bool) (hf : b = dec (FairF bs 0 l)) : CallOk Tryd.prog (callR8 bs l b) := by
  refine known1_ok (fun args h => ?_) (known1_ok (clone_known clone29) (known1_ok (clone_known clone30) (known1_ok (fun args h => ?_) (runOne_ok (known1_ok (fun args h => ?_) base_ok) mixed _ _))))
  · subst h
    exact ⟨fair_ok bs hb hl l hn b hf, by simp [pureVals, AV.pure, pure_bytes, pure_toks], rfl⟩
  · subst h
    exact ⟨which_ok l hn, by simp [pureVals, AV.pure, pure_toks, f32], by simp [AV.pure, pure_rowsI]⟩
  · obtain ⟨t, ht, rfl⟩ := h
    exact ⟨place_ok bs hb hl t ht, by simp [pureVals, AV.pure, pure_bytes], rfl⟩
theorem new_raw (hb : ∀ b ∈ bs, b < 256) (hl : bs.length ≤ 100000) (hn : l.length ≤ 100000) (hf : FairF bs 0 l) (n : Nat) (hnn : n = (seenF 0 l).length) : ARet Tryd.prog 8 [.sl 1 (rowsB bs), .sl 4 (toks l)] [] [] (.tu [.pt 0 0, I 0]) (newO bs l n) := by
  have hlen : (rowsI (seenF 0 l)).length = n := by simp [rowsI, hnn]
  have hblen : (rowsB bs).length = bs.length := by simp [rowsB]
  have hsl := seenF_len l 0
  have hren : ∀ f i, renL f (newL bs l i) = [some (.sl 1 (rowsB bs)), some (.pt (f 1) 0), some (.fn (.func 33) [] [.pt (f 1) 0]), some (.sl 1 (rowsI (seenF 0 l))), some (I (rowsI (seenF 0 l)).length), some (I i)] := fun f i => by simp [renL, newL, AV.ren, renVals, renRows_pure _ _ (pure_bytes bs), renRows_pure _ _ (pure_rowsI _)]
  have hst : ∀ f s, renVals f (streamC bs l s 0) = streamC bs l (s.ren f) 0 := fun f s => by simp [streamC, renVals, AV.ren, renRows_pure _ _ (pure_bytes bs), renRows_pure _ _ (pure_rowsI _), renRows_pure _ _ (pure_toks l)]
  have hcf : CallOk Tryd.prog (callR8 bs l true) := callR8_ok hb hl hn true (dec_true.2 hf).symm
  have hpl : PlaceArg bs [.sl 1 (rowsB bs), I (rowsB bs).length] := ⟨bs.length, Nat.le_refl _, by rw [hblen]⟩
  have hlc : ((rowsB bs).length : Int).toNat = bs.length := by rw [hblen]; simp
  have hp1 : ∀ k : Int, pureRows [itemRow 0 k (placeOf bs bs.length).2] = true := fun k => rfl
  have hus : ∀ (N : Nat) (s : AV), s.und N = true → undVals N (streamC bs l s 0) = true := fun N s h => by simp [streamC, undVals, AV.und, h, undRows_pure _ _ (pure_bytes bs), undRows_pure _ _ (pure_rowsI _), undRows_pure _ _ (pure_toks l)]
  refine aret_loop2 hcf mixed (pu := noPu) (lf := 3000) (fn := Tryd.f8) (hs := hd8) (H := h8) (id := 0) (c := lp8) (B := tl8) rfl rfl rfl (Nat.le_of_ble_eq_true rfl) (by cases n <;> rfl) (by
      cases n with
      | zero => simp only [newO, List.all_cons, List.all_nil, Ob.und, hus 4 (.sr 3 5 0 1) rfl, undRows_pure _ _ (hp1 _), List.length_cons, List.length_nil]; rfl
      | succ k =>
        have : pureRows (itemsOf bs l (k + 1) ++ [itemRow 0 (k + 1 : Nat) (placeOf bs bs.length).2]) = true := pure_rows fun r hr => by
          rcases List.mem_append.1 hr with hr | hr
          · obtain ⟨j, _, rfl⟩ := List.mem_map.1 hr; exact pure_item bs l j
          · have : r = itemRow 0 (k + 1 : Nat) (placeOf bs bs.length).2 := by simpa using hr
            rw [this]; rfl
        simp only [newO, List.all_cons, List.all_nil, Ob.und, hus 5 (.sr 4 5 0 (k + 2)) rfl, undRows_pure _ _ (hp1 _), undRows_pure _ _ this, List.length_cons, List.length_nil]; rfl)
    (ι := Nat) (fun j => newL bs l j) (fun j => newB bs l j) (fun j => j ≤ n) (fun j => n - j) 0 (Nat.zero_le _) ?_ ?_
  · exact head_of (L' := newL bs l (0 : Nat)) (ob' := newB bs l 0) (new_head bs l) (ac (dec_true.2 rfl) (ac (dec_true.2 ⟨_, rfl, rows1_toks hn⟩) (ac (dec_true.2 ⟨_, rfl, rows1_bytes hl⟩) (ac (dec_true.2 rfl) rfl)))) rfl (by rw [hren]; rfl) (by simp [newB, objN, renO, Ob.ren, hst, slotN, AV.ren, nilS, renVals, fsel])
  · intro j hj
    by_cases hjn : j < n
    · left
      refine ⟨j + 1, hjn, by omega, ?_⟩
      obtain ⟨i, hi⟩ : ∃ i, (seenF 0 l)[j]? = some i := ⟨_, List.getElem?_eq_getElem (by omega)⟩
      obtain ⟨_, t, ht, hc⟩ := seenF_get l 0 j i hi
      rw [Nat.sub_zero] at ht
      have hrow : (toks l)[i]? = some [I t.ty, I t.ch, I t.fr, I t.to] := by
        unfold toks
        rw [List.getElem?_map, ht]
        rfl
      have hfr := fairF_mem hf t (List.mem_of_getElem? ht)
      have p1 : decide ((j : Int) < (rowsI (seenF 0 l)).length) = true := decide_eq_true (by omega)
      have p2 : (true && dec ((rowsI (seenF 0 l))[j]? = some [I i])) = true := by
        rw [Bool.true_and]; refine dec_true.2 ?_
        unfold rowsI; rw [List.getElem?_map, hi]; rfl
      have p3 : (true && dec ((toks l)[i]? = some [I t.ty, I t.ch, I t.fr, I t.to])) = true := by rw [Bool.true_and]; exact dec_true.2 hrow
      have p4 : dec (PlaceArg bs [.sl 1 (rowsB bs), I t.fr]) = true := dec_true.2 ⟨t.fr.toNat, by omega, by rw [Int.toNat_of_nonneg hfr.1]⟩
      have p5 : dec (IntKind.i64.wrap ((j : Int) + 1) = (j + 1 : Nat)) = true := dec_true.2 ((wrap64 (by omega) (by omega)).trans (by omega))
      have hit : itemAt bs l j = itemRow t.ty j (placeOf bs t.fr.toNat).2 := by simp only [itemAt, hi, ht]
      cases j with
      | zero =>
        refine step_of (L' := newL bs l (1 : Nat)) (ob' := newB bs l 1) (new_step0 bs l 0 i t.ty t.ch t.fr t.to) (ac p5 (ac rfl (ac p4 (ac p3 (ac p3 (ac p2 (ac p1 rfl))))))) rfl (by rw [hren]; rfl) ?_
        have e1 : itemsOf bs l 1 = [itemRow t.ty 0 (placeOf bs t.fr.toNat).2] := by rw [itemsOf_succ, hit]; rfl
        simp only [newB, objN, renO, List.map_cons, List.map_nil, Ob.ren, hst, slotN, renRows_pure _ _ (pure_items bs l _), e1]
        rfl
      | succ k =>
        refine step_of (L' := newL bs l (k + 1 + 1 : Nat)) (ob' := newB bs l (k + 1 + 1)) (new_step1 bs l (k + 1) i t.ty t.ch t.fr t.to (k + 1) (itemsOf bs l (k + 1))) (ac p5 (ac (andt (andt rfl (nle (by rw [itemsOf_len]; exact Nat.le_refl _))) (andt (andt rfl (nle (by omega))) (nle (by omega)))) (ac p4 (ac p3 (ac p3 (ac p2 (ac p1 rfl))))))) rfl (by rw [hren]; rfl) ?_
        have e1 : itemsOf bs l (k + 1 + 1) = (itemsOf bs l (k + 1)).take (k + 1) ++ [itemRow t.ty (k + 1 : Nat) (placeOf bs t.fr.toNat).2] := by
          rw [List.take_of_length_le (by rw [itemsOf_len]; exact Nat.le_refl _), itemsOf_succ bs l (k + 1), hit]
        rw [← e1]
        simp only [newB, objN, renO, List.map_cons, List.map_nil, Ob.ren, hst, slotN, renRows_pure _ _ (pure_items bs l _)]
        rfl
    · right
      obtain rfl : j = n := by omega
      have px : (!decide ((j : Int) < (rowsI (seenF 0 l)).length)) = true := nd (by omega)
      cases j with
      | zero =>
        refine last_of (new_last0 bs l 0) (ac rfl (ac (dec_true.2 hpl) (ac px rfl))) ?_
        rw [hlc]; rfl
      | succ k =>
        refine last_of (new_last1 bs l (k + 1) (k + 1) (itemsOf bs l (k + 1))) (ac (andt (andt rfl (nle (by rw [itemsOf_len]; exact Nat.le_refl _))) (andt (andt rfl (nle (by omega))) (nle (by omega)))) (ac (dec_true.2 hpl) (ac px rfl))) ?_
        rw [hlc, List.take_of_length_le (by rw [itemsOf_len]; exact Nat.le_refl _)]; rfl
theorem new_frz {ob1 : List Ob} {o m : Nat} {rows : List (List AV)} (h : ARet Tryd.prog 8 [.sl 1 (rowsB bs), .sl 4 (toks l)] [] [] (.tu [.pt 0 0, I 0]) (.box (streamC bs l (.sr (o + 1) 5 0 m) 0) :: ob1)) (ho : ob1[o]? = some (.row 52 5 rows)) (hm : m = rows.length) (hp : pureRows rows = true) :
    ARet Tryd.prog 8 [.sl 1 (rowsB bs), .sl 4 (toks l)] [] [] (.tu [.pf (streamC bs l (.sl 5 rows) 0), I 0]) [] := by
  have h1 := aret_frz (ob2 := .box (streamC bs l (.sl 5 rows) 0) :: ob1.map fun _ => .dead) (r' := .tu [.pt 0 0, I 0]) h (o := o + 1) (X := .row 52 5 rows) (by simpa using ho) (.inl ⟨_, _, _, rfl⟩) (Frz.same _) (by simp) (fun i Y Y' e1 e2 => by
    cases i with
    | zero =>
      simp at e1 e2
      subst e1; subst e2
      exact .inr ⟨by omega, .box (.cons (Frz.same _) (.cons (Frz.same _) (.cons (Frz.sr0 rfl hm) (FrzL.same _))))⟩
    | succ i =>
      simp at e2
      exact .inl e2.2.symm)
  have h2 := aret_frz (ob2 := .dead :: ob1.map fun _ => .dead) h1 (o := 0) (X := .box (streamC bs l (.sl 5 rows) 0)) rfl (.inr ⟨_, rfl⟩) (Frz.tu (.cons (Frz.pt rfl) (FrzL.same _))) rfl (fun i Y Y' e1 e2 => by
    cases i with
    | zero => simp at e2; exact .inl e2.symm
    | succ i => simp at e2; exact .inl e2.2.symm)
  exact aret_fin h2 (by simp [AV.und, undVals, streamC, undRows_pure _ _ (pure_bytes bs), undRows_pure _ _ (pure_rowsI _), undRows_pure _ _ (pure_toks l), undRows_pure _ _ hp])
noncomputable def streamAV (bs : List Nat) (l : List Tok) : AV := .pf (streamC bs l (.sl 5 (itemsOf bs l ((seenF 0 l).length + 1))) 0)
theorem new_ok (hb : ∀ b ∈ bs, b < 256) (hl : bs.length ≤ 100000) (hn : l.length ≤ 100000) (hf : FairF bs 0 l) : ARet Tryd.prog 8 [.sl 1 (rowsB bs), .sl 4 (toks l)] [] [] (.tu [streamAV bs l, I 0]) [] := by
  have h := new_raw hb hl hn hf _ rfl
  have hlast : itemAt bs l (seenF 0 l).length = itemRow 0 (seenF 0 l).length (placeOf bs bs.length).2 := by simp [itemAt]
  unfold streamAV
  have e1 := itemsOf_succ bs l (seenF 0 l).length
  rw [hlast] at e1
  generalize hs : (seenF 0 l).length = n at h e1
  cases n with
  | zero => exact new_frz (o := 2) h (by rw [e1]; rfl) (by rw [itemsOf_len]) (pure_items _ _ _)
  | succ k => exact new_frz (o := 3) h (by rw [e1]; rfl) (by rw [itemsOf_len]) (pure_items _ _ _)
theorem new_bad (hb : ∀ b ∈ bs, b < 256) (hl : bs.length ≤ 100000) (hn : l.length ≤ 100000) (hf : ¬ FairF bs 0 l) : ARet Tryd.prog 8 [.sl 1 (rowsB bs), .sl 4 (toks l)] [] [] (.tu [.v (.pointer none), I 2]) [] :=
  aret_of_run (obs := []) (runOne_ok (callR8_ok hb hl hn false (by
    cases h : dec (FairF bs 0 l) with
    | false => rfl
    | true => exact absurd (dec_true.1 h) hf)) mixed _ _) (new_no bs l) (ac (dec_true.2 rfl) rfl)
end Go.Proofs.YtifnhnkogcgnaaaDoor
