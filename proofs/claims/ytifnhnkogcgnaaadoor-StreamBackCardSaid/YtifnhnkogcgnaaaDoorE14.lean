/- The law StreamBack returns true at any bytes and any tokens: the loop, and all cases together. -/
import Derived.Test.YtifnhnkogcgnaaaDoorE13
namespace Go.Proofs.YtifnhnkogcgnaaaDoor
open Go.Am
variable {bs : List Nat} {l : List Tok}
theorem strEq (zs : List Int) : (!(!beqL (mkString zs).data.toList (mkString zs).data.toList)) = true := by
  have : ∀ x : List UInt8, beqL x x = true := fun x => by
    induction x with
    | nil => rfl
    | cons a x ih => simp only [beqL, ih]; rw [show Nat.beq a.toNat a.toNat = true from Nat.beq_refl _]; rfl
  rw [this]; rfl
theorem back_main (g : OkIn bs l) : ARet Tryd.prog 3 [.sl 1 (rowsB bs), .sl 4 (toks l)] [] [] (.v (.bool true)) [] := by
  have hgl := g.hl
  have hgn := g.hn
  have hsl := seenF_len l 0
  have htl := toks_len l
  have hbl := rowsB_len bs
  have hql := itemsAll_len (bs := bs) (l := l)
  have hrl := seenR_len l (seenF 0 l).length
  have hps := pure_strm (bs := bs) (l := l) (pure_itemsAll (bs := bs) (l := l))
  have hren : ∀ f s e i, renL f (backL bs l (itemsAll bs l) s e i) = [some (.sl 1 (rowsB bs)), some (.sl 4 (toks l)), some (strm bs l (itemsAll bs l)), some (.sl 5 (itemsAll bs l)), some (.sl 4 (seenR l (seenF 0 l).length)), some (s.ren f), some (I e), some (I i)] := fun f s e i => by
    have := ren_pure f _ hps
    simp [renL, backL, AV.ren, renRows_pure _ _ (pure_bytes bs), renRows_pure _ _ (pure_toks l), renRows_pure _ _ (pure_itemsAll (bs := bs) (l := l)), renRows_pure _ _ (pure_seenR l _), this]
  have hrenO : ∀ f (m : List Tok), renO f [.row 43 4 (toks m)] = [some (.row 43 4 (toks m))] := fun f m => by simp [renO, Ob.ren, renRows_pure _ _ (pure_toks m)]
  refine aret_loop3 (callR3_ok g) mixed (pu := noPu) (lf := 3000) (fn := Tryd.f3) (hs := hd3) (H := h3) (id := 0) (c := lp3) (B := tl3) rfl rfl rfl (Nat.le_of_ble_eq_true rfl) rfl rfl
    (ι := Nat) (fun j => backL bs l (itemsAll bs l) (slotB l j) (endN bs l j) j) (fun j => obB l j) (fun j => j ≤ (seenF 0 l).length + 1) (fun j => (seenF 0 l).length + 1 - j) 0 (Nat.zero_le _) ?_ ?_
  · exact head_of (L' := backL bs l (itemsAll bs l) (slotB l 0) (0 : Nat) (0 : Nat)) (ob' := obB l 0) (back_head bs l (itemsAll bs l)) (ac (dec_true.2 rfl) (ac (decide_eq_true (by omega)) (ac (by simp) (ac (dec_true.2 ((wrap64 (by omega) (by omega)).trans (by omega))) (ac (dec_true.2 rfl) (ac (dec_true.2 rfl) (ac rfl (ac (dec_true.2 rfl) (ac (nd (by omega)) (ac (nd (by omega)) rfl)))))))))) rfl (by rw [hren]; rfl) rfl
  · intro j hj
    by_cases hjn : j < (seenF 0 l).length + 1
    · left
      refine ⟨j + 1, hjn, by omega, ?_⟩
      have hjs : j ≤ (seenF 0 l).length := by omega
      have he := ends_le g j
      have hm := ends_mono g j hjs
      have f1 := fl (n := (endsAt bs l j).1) (by omega)
      have f2 := fl (n := (endsAt bs l j).2) (by omega)
      have hKA : dec (KArg (strm bs l (itemsAll bs l)) (seenF 0 l).length [strm bs l (itemsAll bs l), I j]) = true := dec_true.2 ⟨j, hjs, rfl⟩
      have p0 : decide ((j : Int) < (itemsAll bs l).length) = true := decide_eq_true (by omega)
      have p5 : dec (IntKind.i64.wrap ((j : Int) + 1) = (j + 1 : Nat)) = true := dec_true.2 ((wrap64 (by omega) (by omega)).trans (by omega))
      have hrow1 : rowsOne (hidRows l j) = true := (rows1_take hgn _ _).1
      have pt : (true && dec (StrOf (((rowsB bs).drop (endsAt bs l j).1).take ((endsAt bs l j).2 - (endsAt bs l j).1)) (textOf bs (endsAt bs l j)))) = true := by rw [Bool.true_and]; exact dec_true.2 (strOf_piece bs _)
      have pble : (Nat.ble (endsAt bs l j).1 (endsAt bs l j).2 && Nat.ble (endsAt bs l j).2 (rowsB bs).length && true) = true := andt (andt (nle he.1) (nle (by omega))) rfl
      have pre : ∀ {a2 : Bool} {rest : List Bool}, a2 = true → (∀ r, allT r = true → allT (rest ++ r) = true) → allT (rest ++ [!(!beqL (mkString (textOf bs (endsAt bs l j))).data.toList (mkString (textOf bs (endsAt bs l j))).data.toList), true && dec (StrOf (((rowsB bs).drop (endsAt bs l j).1).take ((endsAt bs l j).2 - (endsAt bs l j).1)) (textOf bs (endsAt bs l j))), Nat.ble (endsAt bs l j).1 (endsAt bs l j).2 && Nat.ble (endsAt bs l j).2 (rowsB bs).length && true,
          !decide (((endsAt bs l j).2 : Int) > (rowsB bs).length), !decide (((endsAt bs l j).2 : Int) < (endsAt bs l j).1), !decide (((endsAt bs l j).1 : Int) < (endN bs l j)), true, dec (KArg (strm bs l (itemsAll bs l)) (seenF 0 l).length [strm bs l (itemsAll bs l), I j]),
          dec (ConvP Tryd.prog 74 3 (flb (fb (endsAt bs l j).2)) (.int .i64 ((endsAt bs l j).2 : Nat))), dec (CallP Tryd.prog .min #[74, 74] 74 #[false, true] [flb (fb (endsAt bs l j).2), flb bigF] (flb (fb (endsAt bs l j).2))), dec (CallP Tryd.prog .max #[74, 74] 74 #[false, true] [flb (fb (endsAt bs l j).2), flb 0] (flb (fb (endsAt bs l j).2))), !(FloatKind.f64.format.order (fb (endsAt bs l j).2) (fb (endsAt bs l j).2) != some Ordering.eq),
          dec (CallP Tryd.prog .imag #[35] 74 #[false] [.complex .f64 (fb (endsAt bs l j).1) (fb (endsAt bs l j).2)] (flb (fb (endsAt bs l j).2))),
          dec (ConvP Tryd.prog 74 3 (flb (fb (endsAt bs l j).1)) (.int .i64 ((endsAt bs l j).1 : Nat))), dec (CallP Tryd.prog .min #[74, 74] 74 #[false, true] [flb (fb (endsAt bs l j).1), flb bigF] (flb (fb (endsAt bs l j).1))), dec (CallP Tryd.prog .max #[74, 74] 74 #[false, true] [flb (fb (endsAt bs l j).1), flb 0] (flb (fb (endsAt bs l j).1))), !(FloatKind.f64.format.order (fb (endsAt bs l j).1) (fb (endsAt bs l j).1) != some Ordering.eq),
          dec (CallP Tryd.prog .real #[35] 74 #[false] [.complex .f64 (fb (endsAt bs l j).1) (fb (endsAt bs l j).2)] (flb (fb (endsAt bs l j).1))),
          dec (KArg (strm bs l (itemsAll bs l)) (seenF 0 l).length [strm bs l (itemsAll bs l), I j]), a2, dec (KArg (strm bs l (itemsAll bs l)) (seenF 0 l).length [strm bs l (itemsAll bs l), I j]), decide ((j : Int) < (itemsAll bs l).length)]) = true := fun {a2 rest} h2 hr => hr _ (ac (strEq _) (ac pt (ac pble (ac (nd (by omega)) (ac (nd (by omega)) (ac (nd (by omega)) (ac rfl (ac hKA
          (ac (dec_true.2 f2.cb) (ac (dec_true.2 f2.mn) (ac (dec_true.2 f2.mx) (ac f2.nn (ac (dec_true.2 imagP) (ac (dec_true.2 f1.cb) (ac (dec_true.2 f1.mn) (ac (dec_true.2 f1.mx) (ac f1.nn (ac (dec_true.2 realP) (ac hKA (ac h2 (ac hKA (ac p0 rfl))))))))))))))))))))))
      by_cases hlt : j < (seenF 0 l).length
      · obtain ⟨b, hb⟩ : ∃ i, (seenF 0 l)[j]? = some i := ⟨_, List.getElem?_eq_getElem hlt⟩
        obtain ⟨_, t, ht, hc⟩ := seenF_get l 0 j b hb
        rw [Nat.sub_zero] at ht
        have hbl2 := seen_at hb
        have hcb := cut_seen hb
        have hcut : cutN l (j + 1) = b + 1 := by simp only [cutN, hb]
        obtain ⟨k1, k2⟩ := hid_back (j := j) (b := b) hjs (by simp only [hidAt, hb]) hcb (by omega)
        have hend : endN bs l (j + 1) = (endsAt bs l j).2 := rfl
        have hrowt : (seenR l (seenF 0 l).length)[j]? = some [I t.ty, I t.ch, I t.fr, I t.to] := by
          unfold seenR
          rw [List.getElem?_map, List.getElem?_range hlt]
          simp only [Option.map_some, seenAt, hb, ht, tokRow]
        have p6 : decide ((j : Int) < (seenR l (seenF 0 l).length).length) = true := decide_eq_true (by omega)
        have p7 : (true && dec ((seenR l (seenF 0 l).length)[j]? = some [I t.ty, I t.ch, I t.fr, I t.to])) = true := by rw [Bool.true_and]; exact dec_true.2 hrowt
        have htk : toks (l.take b) ++ [[I t.ty, I t.ch, I t.fr, I t.to]] = toks (l.take (b + 1)) := by
          rw [List.take_add_one, ht]
          simp [toks, tokRow]
        have htake : ∀ k, (toks (l.take b)).take k = toks ((l.take b).take k) := fun k => by simp [toks, List.map_take]
        have hlen : (toks (l.take b)).length = b := by rw [toks_len, List.length_take]; omega
        cases j with
        | zero =>
          have c0 : cutN l 0 = 0 := rfl
          have r1 : (List.take 0 [] ++ hidRows l 0) = toks (l.take b) := by rw [← k1]; rfl
          have kk : 0 + (hidRows l 0).length = b := by rw [k2, c0]; omega
          refine step_of (L' := backL bs l (itemsAll bs l) (slotB l 1) (endN bs l 1) (1 : Nat)) (ob' := obB l 1) (back_0s bs l (itemsAll bs l) [] (.tu [strm bs l (itemsAll bs l), I 0]) (endN bs l 0) 0 0 (fb (endsAt bs l 0).1) (fb (endsAt bs l 0).2) (endsAt bs l 0).1 (endsAt bs l 0).2 t.ty t.ch t.fr t.to (textOf bs (endsAt bs l 0)))
            (pre (rest := [_, _, _, _]) (andt rfl (andt (andt (andt rfl hrow1) (nle ?_)) (nle ?_))) fun r hr => ac p5 (ac ?_ (ac p7 (ac p6 hr)))) rfl ?_ ?_
          · show (0 + (hidRows l 0).length) * 32 ≤ _; rw [kk]; omega
          · show 0 + (hidRows l 0).length ≤ _; rw [kk]; omega
          · show ((true && Nat.ble (0 + (hidRows l 0).length) (List.take 0 [] ++ hidRows l 0).length) && (true && Nat.ble ((0 + (hidRows l 0).length + 1) * 32) 140737488355328 && Nat.ble (0 + (hidRows l 0).length + 1) 9223372036854775807)) = true
            rw [r1, kk, hlen]
            exact andt (andt rfl (nle (Nat.le_refl _))) (andt (andt rfl (nle (by omega))) (nle (by omega)))
          · rw [hren]
            show [_, _, _, _, _, some (AV.ren _ (.sr 0 4 0 (cutN l 1))), _, _] = [_, _, _, _, _, some (.sr 2 4 0 (0 + (hidRows l 0).length + 1)), _, _]
            rw [kk, hcut]; rfl
          · show renO _ [Ob.row 43 4 (toks (l.take (cutN l 1)))] = [some (.row 43 4 (List.take (0 + (hidRows l 0).length) (List.take 0 [] ++ hidRows l 0) ++ [[I t.ty, I t.ch, I t.fr, I t.to]]))]
            rw [hrenO, hcut, r1, kk, htake, List.take_take, Nat.min_self, htk]
        | succ i =>
          have hc1 := cut_le (l := l) (i + 1)
          have r0 : (toks (l.take (cutN l (i + 1)))).take (cutN l (i + 1)) = toks (l.take (cutN l (i + 1))) := List.take_of_length_le (by rw [toks_len, List.length_take]; omega)
          have r1 : ((toks (l.take (cutN l (i + 1)))).take (cutN l (i + 1)) ++ hidRows l (i + 1)) = toks (l.take b) := by rw [r0, k1]
          have kk : cutN l (i + 1) + (hidRows l (i + 1)).length = b := by rw [k2]; omega
          refine step_of (L' := backL bs l (itemsAll bs l) (slotB l (i + 1 + 1)) (endN bs l (i + 1 + 1)) (i + 1 + 1 : Nat)) (ob' := obB l (i + 1 + 1)) (back_1s bs l (itemsAll bs l) (toks (l.take (cutN l (i + 1)))) (.tu [strm bs l (itemsAll bs l), I 0]) (endN bs l (i + 1)) (i + 1) (cutN l (i + 1)) (fb (endsAt bs l (i + 1)).1) (fb (endsAt bs l (i + 1)).2) (endsAt bs l (i + 1)).1 (endsAt bs l (i + 1)).2 t.ty t.ch t.fr t.to (textOf bs (endsAt bs l (i + 1))))
            (pre (rest := [_, _, _, _]) (andt (andt rfl (nle (by rw [toks_len, List.length_take]; omega))) (andt (andt (andt rfl hrow1) (nle ?_)) (nle ?_))) fun r hr => ac p5 (ac ?_ (ac p7 (ac p6 hr)))) rfl ?_ ?_
          · show (cutN l (i + 1) + (hidRows l (i + 1)).length) * 32 ≤ _; rw [kk]; omega
          · show cutN l (i + 1) + (hidRows l (i + 1)).length ≤ _; rw [kk]; omega
          · show ((true && Nat.ble (cutN l (i + 1) + (hidRows l (i + 1)).length) (List.take (cutN l (i + 1)) (toks (l.take (cutN l (i + 1)))) ++ hidRows l (i + 1)).length) && (true && Nat.ble ((cutN l (i + 1) + (hidRows l (i + 1)).length + 1) * 32) 140737488355328 && Nat.ble (cutN l (i + 1) + (hidRows l (i + 1)).length + 1) 9223372036854775807)) = true
            rw [r1, kk, hlen]
            exact andt (andt rfl (nle (Nat.le_refl _))) (andt (andt rfl (nle (by omega))) (nle (by omega)))
          · rw [hren]
            show [_, _, _, _, _, some (AV.ren _ (.sr 0 4 0 (cutN l (i + 1 + 1)))), _, _] = [_, _, _, _, _, some (.sr 3 4 0 (cutN l (i + 1) + (hidRows l (i + 1)).length + 1)), _, _]
            rw [kk, hcut]; rfl
          · show renO _ [Ob.row 43 4 (toks (l.take (cutN l (i + 1 + 1))))] = [some (.row 43 4 (List.take (cutN l (i + 1) + (hidRows l (i + 1)).length) (List.take (cutN l (i + 1)) (toks (l.take (cutN l (i + 1)))) ++ hidRows l (i + 1)) ++ [[I t.ty, I t.ch, I t.fr, I t.to]]))]
            rw [hrenO, hcut, r1, kk, htake, List.take_take, Nat.min_self, htk]
      · have hn : (seenF 0 l)[j]? = none := List.getElem?_eq_none (by omega)
        have hcut : cutN l (j + 1) = l.length := by simp only [cutN, hn]
        obtain ⟨k1, k2⟩ := hid_back (j := j) (b := l.length) hjs (by simp only [hidAt, hn]) (cut_le j) (Nat.le_refl _)
        have p6 : (!decide ((j : Int) < (seenR l (seenF 0 l).length).length)) = true := nd (by omega)
        have hcl := cut_le (l := l) j
        cases j with
        | zero =>
          have c0 : cutN l 0 = 0 := rfl
          have r1 : (List.take 0 [] ++ hidRows l 0) = toks (l.take l.length) := by rw [← k1]; rfl
          have kk : 0 + (hidRows l 0).length = l.length := by rw [k2, c0]; omega
          refine step_of (L' := backL bs l (itemsAll bs l) (slotB l 1) (endN bs l 1) (1 : Nat)) (ob' := obB l 1) (back_0e bs l (itemsAll bs l) [] (.tu [strm bs l (itemsAll bs l), I 0]) (endN bs l 0) 0 0 (fb (endsAt bs l 0).1) (fb (endsAt bs l 0).2) (endsAt bs l 0).1 (endsAt bs l 0).2 0 0 0 0 (textOf bs (endsAt bs l 0)))
            (pre (rest := [_, _]) (andt rfl (andt (andt (andt rfl hrow1) (nle ?_)) (nle ?_))) fun r hr => ac p5 (ac p6 hr)) rfl ?_ ?_
          · show (0 + (hidRows l 0).length) * 32 ≤ _; rw [kk]; omega
          · show 0 + (hidRows l 0).length ≤ _; rw [kk]; omega
          · rw [hren]
            show [_, _, _, _, _, some (AV.ren _ (.sr 0 4 0 (cutN l 1))), _, _] = [_, _, _, _, _, some (.sr 0 4 0 (0 + (hidRows l 0).length)), _, _]
            rw [kk, hcut]; rfl
          · show renO _ [Ob.row 43 4 (toks (l.take (cutN l 1)))] = [some (.row 43 4 (List.take 0 [] ++ hidRows l 0))]
            rw [hrenO, hcut, r1]
        | succ i =>
          have r0 : (toks (l.take (cutN l (i + 1)))).take (cutN l (i + 1)) = toks (l.take (cutN l (i + 1))) := List.take_of_length_le (by rw [toks_len, List.length_take]; omega)
          have r1 : ((toks (l.take (cutN l (i + 1)))).take (cutN l (i + 1)) ++ hidRows l (i + 1)) = toks (l.take l.length) := by rw [r0, k1]
          have kk : cutN l (i + 1) + (hidRows l (i + 1)).length = l.length := by rw [k2]; omega
          refine step_of (L' := backL bs l (itemsAll bs l) (slotB l (i + 1 + 1)) (endN bs l (i + 1 + 1)) (i + 1 + 1 : Nat)) (ob' := obB l (i + 1 + 1)) (back_1e bs l (itemsAll bs l) (toks (l.take (cutN l (i + 1)))) (.tu [strm bs l (itemsAll bs l), I 0]) (endN bs l (i + 1)) (i + 1) (cutN l (i + 1)) (fb (endsAt bs l (i + 1)).1) (fb (endsAt bs l (i + 1)).2) (endsAt bs l (i + 1)).1 (endsAt bs l (i + 1)).2 0 0 0 0 (textOf bs (endsAt bs l (i + 1))))
            (pre (rest := [_, _]) (andt (andt rfl (nle (by rw [toks_len, List.length_take]; omega))) (andt (andt (andt rfl hrow1) (nle ?_)) (nle ?_))) fun r hr => ac p5 (ac p6 hr)) rfl ?_ ?_
          · show (cutN l (i + 1) + (hidRows l (i + 1)).length) * 32 ≤ _; rw [kk]; omega
          · show cutN l (i + 1) + (hidRows l (i + 1)).length ≤ _; rw [kk]; omega
          · rw [hren]
            show [_, _, _, _, _, some (AV.ren _ (.sr 0 4 0 (cutN l (i + 1 + 1)))), _, _] = [_, _, _, _, _, some (.sr 1 4 0 (cutN l (i + 1) + (hidRows l (i + 1)).length)), _, _]
            rw [kk, hcut]; rfl
          · show renO _ [Ob.row 43 4 (toks (l.take (cutN l (i + 1 + 1))))] = [some (.row 43 4 (List.take (cutN l (i + 1)) (toks (l.take (cutN l (i + 1)))) ++ hidRows l (i + 1)))]
            rw [hrenO, hcut, r1]
    · right
      obtain rfl : j = (seenF 0 l).length + 1 := by omega
      have hn : (seenF 0 l)[(seenF 0 l).length]? = none := List.getElem?_eq_none (Nat.le_refl _)
      have hcut : cutN l ((seenF 0 l).length + 1) = l.length := by simp only [cutN, hn]
      have e1 : slotB l ((seenF 0 l).length + 1) = .sr 0 4 0 l.length := by simp only [slotB, hcut]
      have e2 : obB l ((seenF 0 l).length + 1) = [.row 43 4 (toks l)] := by simp only [obB, hcut, List.take_length]
      rw [e1, e2]
      refine ⟨backL bs l (itemsAll bs l) (.sr 0 4 0 l.length) (endN bs l ((seenF 0 l).length + 1)) ((seenF 0 l).length + 1 : Nat), [.row 43 4 (toks l)], exits_of (back_out bs l (itemsAll bs l) (toks l) (.tu [strm bs l (itemsAll bs l), I 0]) _ _ l.length) (ac (nd (by omega)) rfl) rfl (by rw [hren]; rfl) (hrenO _ l), ?_⟩
      refine awp_frz (ob2 := [.dead]) (L' := backL bs l (itemsAll bs l) (.sl 4 (toks l)) (endN bs l ((seenF 0 l).length + 1)) ((seenF 0 l).length + 1 : Nat)) (o := 0) rfl (.inl ⟨_, _, _, rfl⟩) rfl (fun i Y Y' _ h2 => .inl (by
        cases i with
        | zero => simp at h2; exact h2.symm
        | succ i => simp at h2)) (fun t av' ht => ?_) (awp_tail (obs := []) (callR3_ok g) mixed (back_tail bs l (itemsAll bs l) (.tu [strm bs l (itemsAll bs l), I 0]) _ _) (ac (dec_true.2 rfl) (ac (dec_true.2 rfl) rfl)) rfl)
      simp only [backL, lk_cons] at ht ⊢
      by_cases h0 : (0 : Nat) = t
      · rw [if_pos h0] at ht ⊢; exact ⟨_, rfl, by cases ht; exact Frz.same _⟩
      rw [if_neg h0] at ht ⊢
      by_cases h1 : (1 : Nat) = t
      · rw [if_pos h1] at ht ⊢; exact ⟨_, rfl, by cases ht; exact Frz.same _⟩
      rw [if_neg h1] at ht ⊢
      by_cases h5 : (5 : Nat) = t
      · rw [if_pos h5] at ht ⊢; exact ⟨_, rfl, by cases ht; exact Frz.same _⟩
      rw [if_neg h5] at ht ⊢
      by_cases h7 : (7 : Nat) = t
      · rw [if_pos h7] at ht ⊢; exact ⟨_, rfl, by cases ht; exact Frz.same _⟩
      rw [if_neg h7] at ht ⊢
      by_cases h8 : (8 : Nat) = t
      · rw [if_pos h8] at ht ⊢; exact ⟨_, rfl, by cases ht; exact Frz.same _⟩
      rw [if_neg h8] at ht ⊢
      by_cases h9 : (9 : Nat) = t
      · rw [if_pos h9] at ht ⊢; exact ⟨_, rfl, by cases ht; exact Frz.sr0 (T := 43) rfl htl.symm⟩
      rw [if_neg h9] at ht ⊢
      by_cases h10 : (10 : Nat) = t
      · rw [if_pos h10] at ht ⊢; exact ⟨_, rfl, by cases ht; exact Frz.same _⟩
      rw [if_neg h10] at ht ⊢
      by_cases h11 : (11 : Nat) = t
      · rw [if_pos h11] at ht ⊢; exact ⟨_, rfl, by cases ht; exact Frz.same _⟩
      rw [if_neg h11] at ht
      cases ht
/-- THE LAW StreamBack, at rows. -/
theorem back_all (bs : List Nat) (hb : ∀ b ∈ bs, b < 256) (l : List Tok) : ARet Tryd.prog 3 [.sl 1 (rowsB bs), .sl 4 (toks l)] [] [] (.v (.bool true)) [] := by
  have htl := toks_len l
  have hbl := rowsB_len bs
  by_cases h1 : bs.length > 2000
  · exact aret_of_run (obs := []) (runOne_ok callG_ok mixed _ _) (back_g1 bs l) (ac (dec_true.2 rfl) (ac (decide_eq_true (by omega)) rfl))
  by_cases h2 : l.length > 400
  · exact aret_of_run (obs := []) (runOne_ok callG_ok mixed _ _) (back_g2 bs l) (ac (dec_true.2 rfl) (ac (decide_eq_true (by omega)) (ac (nd (by omega)) rfl)))
  by_cases hf : FairF bs 0 l
  · exact back_main ⟨hb, by omega, by omega, hf⟩
  · refine aret_of_run (obs := []) (runOne_ok (known1_ok (fun args h => by subst h; exact ⟨wakes_ok, rfl, rfl⟩) (known1_ok (fun args h => ?_) base_ok)) mixed _ _) (back_no bs l) (ac (dec_true.2 rfl) (ac rfl (ac (dec_true.2 rfl) (ac (nd (by omega)) (ac (nd (by omega)) rfl)))))
    subst h
    exact ⟨new_bad hb (by omega) (by omega) hf, by simp [pureVals, AV.pure, pure_bytes, pure_toks], rfl⟩
end Go.Proofs.YtifnhnkogcgnaaaDoor
