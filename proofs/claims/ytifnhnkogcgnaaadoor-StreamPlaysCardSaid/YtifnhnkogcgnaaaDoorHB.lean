/- What a stream tells of a place that no item has; the law's told: true at every place. The law StreamPlays: its calls, its runs. -/
import Derived.Test.YtifnhnkogcgnaaaDoorE13
import Derived.Test.YtifnhnkogcgnaaaDoorHA
import Derived.Test.YtifnhnkogcgnaaaDoorAmSl
namespace Go.Proofs.YtifnhnkogcgnaaaDoor
open Go.Am
noncomputable def callR24 (bs : List Nat) (l : List Tok) (q h : List (List AV)) (x : Int) (r13 r15 : AV) : CallF :=
  known1 20 (fun args => args = [.sl 4 (toks l)]) (fun _ => .sl 4 (toks (seenT l))) (known1 15 (fun args => args = [strm bs l q, I x]) (fun _ => r15) (known1 13 (fun args => args = [strm bs l q, I x]) (fun _ => r13)
  (known1 12 (fun args => args = [strm bs l q, I x]) (fun _ => .sl 4 h) (known1 41 (fun args => args = [.sl 4 (toks l), I x]) (fun _ => .sl 4 h) (known1 16 (fun args => args = [.sl 4 h, .sl 4 h]) tv' (known1 42 SpanArg spanRes base))))))
noncomputable def run24 (bs : List Nat) (l : List Tok) (q h : List (List AV)) (x : Int) (r13 r15 : AV) : CallF := runOne Tryd.prog noPu 3000 (callR24 bs l q h x r13 r15)
theorem told_lo (bs : List Nat) (l : List Tok) (q h : List (List AV)) (x : Int) : outC (run24 bs l q h x (.tu [.v (.complex .f64 0 0), I 4]) (.tu [.v (.string (mkString [])), I 4]) 24 [strm bs l q, .sl 1 (rowsB bs), .sl 4 (toks l), I x] .e 0 ⟨0, [.b false, .b true, .b true, .b true, .b true, .b true, .b true], []⟩) = some (.v (.bool true), [], [true, true, true, decide (x < 0), dec (([AV.sl 4 h, .sl 4 h]) = [.sl 4 h, .sl 4 h]), dec (([AV.sl 4 (toks l), I x]) = [.sl 4 (toks l), I x]), dec (([strm bs l q, I x]) = ([strm bs l q, I x])), true, dec (([strm bs l q, I x]) = ([strm bs l q, I x])), dec (([strm bs l q, I x]) = ([strm bs l q, I x])), dec (([AV.sl 4 (toks l)]) = [.sl 4 (toks l)])]) := by kernel_rfl
theorem told_hi (bs : List Nat) (l : List Tok) (q h : List (List AV)) (x : Int) : outC (run24 bs l q h x (.tu [.v (.complex .f64 0 0), I 4]) (.tu [.v (.string (mkString [])), I 4]) 24 [strm bs l q, .sl 1 (rowsB bs), .sl 4 (toks l), I x] .e 0 ⟨0, [.b false, .b false, .b true, .b true, .b true, .b true, .b true], []⟩) = some (.v (.bool true), [], [true, true, true, decide (x > (toks (seenT l)).length), !decide (x < 0), dec (([AV.sl 4 h, .sl 4 h]) = [.sl 4 h, .sl 4 h]), dec (([AV.sl 4 (toks l), I x]) = [.sl 4 (toks l), I x]), dec (([strm bs l q, I x]) = ([strm bs l q, I x])), true, dec (([strm bs l q, I x]) = ([strm bs l q, I x])), dec (([strm bs l q, I x]) = ([strm bs l q, I x])), dec (([AV.sl 4 (toks l)]) = [.sl 4 (toks l)])]) := by kernel_rfl
theorem told_n (bs : List Nat) (l : List Tok) (q h : List (List AV)) (x : Int) : outC (run24 bs l q h x (.tu [spanV ((rowsB bs).length : Int).toNat ((rowsB bs).length : Int).toNat, I 0]) (.tu [.v (.string (mkString [])), I 0]) 24 [strm bs l q, .sl 1 (rowsB bs), .sl 4 (toks l), I x] .e 0 ⟨0, [.b false, .b false, .b false, .b true, .b true, .b true, .b true], []⟩) = some (.v (.bool true), [], [((FloatKind.f64.format.order (fb ((rowsB bs).length : Int).toNat) (fb ((rowsB bs).length : Int).toNat) == some Ordering.eq) && (FloatKind.f64.format.order (fb ((rowsB bs).length : Int).toNat) (fb ((rowsB bs).length : Int).toNat) == some Ordering.eq)), dec (SpanArg [I (rowsB bs).length, I (rowsB bs).length]), true, true, x == (toks (seenT l)).length, !decide (x > (toks (seenT l)).length), !decide (x < 0), dec (([AV.sl 4 h, .sl 4 h]) = [.sl 4 h, .sl 4 h]), dec (([AV.sl 4 (toks l), I x]) = [.sl 4 (toks l), I x]), dec (([strm bs l q, I x]) = ([strm bs l q, I x])), true, dec (([strm bs l q, I x]) = ([strm bs l q, I x])), dec (([strm bs l q, I x]) = ([strm bs l q, I x])), dec (([AV.sl 4 (toks l)]) = [.sl 4 (toks l)])]) := by kernel_rfl
theorem told_x (bs : List Nat) (l : List Tok) (q h : List (List AV)) (x : Nat) (zs : List Int) (ty ch : Int) (fr to : Nat) : outC (run24 bs l q h x (.tu [spanV fr to, I 0]) (.tu [.v (.string (mkString zs)), I 0]) 24 [strm bs l q, .sl 1 (rowsB bs), .sl 4 (toks l), I x] .e 0 ⟨0, [.b false, .b false, .b false, .b false, .b true, .row [I ty, I ch, I fr, I to], .row [I ty, I ch, I fr, I to], .str zs, .b true, .row [I ty, I ch, I fr, I to], .row [I ty, I ch, I fr, I to], .b true, .b true], []⟩) = some (.v (.bool true), [], [((FloatKind.f64.format.order (fb fr) (fb fr) == some Ordering.eq) && (FloatKind.f64.format.order (fb to) (fb to) == some Ordering.eq)), dec (SpanArg [I fr, I to]), true && dec ((toks (seenT l))[x]? = some [I ty, I ch, I fr, I to]), true && dec ((toks (seenT l))[x]? = some [I ty, I ch, I fr, I to]), beqL (mkString zs).data.toList (mkString zs).data.toList, true && dec (StrOf (((rowsB bs).drop fr).take (to - fr)) zs), Nat.ble fr to && Nat.ble to (rowsB bs).length && true, true && dec ((toks (seenT l))[x]? = some [I ty, I ch, I fr, I to]), true && dec ((toks (seenT l))[x]? = some [I ty, I ch, I fr, I to]), true, !((x : Int) == (toks (seenT l)).length), !decide ((x : Int) > (toks (seenT l)).length), true, dec (([AV.sl 4 h, .sl 4 h]) = [.sl 4 h, .sl 4 h]), dec (([AV.sl 4 (toks l), I x]) = [.sl 4 (toks l), I x]), dec (([strm bs l q, I x]) = ([strm bs l q, I x])), true, dec (([strm bs l q, I x]) = ([strm bs l q, I x])), dec (([strm bs l q, I x]) = ([strm bs l q, I x])), dec (([AV.sl 4 (toks l)]) = [.sl 4 (toks l)])]) := by kernel_rfl
theorem span13_lo (bs : List Nat) (l : List Tok) (q : List (List AV)) (x : Int) : outC (run13 13 [strm bs l q, I x] .e 0 ⟨0, [.b false, .b true, .b true], []⟩) = some (.tu [.v (.complex .f64 0 0), I 4], [], [decide (x < 0), true]) := by kernel_rfl
theorem span13_hi (bs : List Nat) (l : List Tok) (q : List (List AV)) (x : Int) : outC (run13 13 [strm bs l q, I x] .e 0 ⟨0, [.b false, .b false, .b true, .b true], []⟩) = some (.tu [.v (.complex .f64 0 0), I 4], [], [decide (x ≥ q.length), !decide (x < 0), true]) := by kernel_rfl
theorem hid_lo (bs : List Nat) (l : List Tok) (q : List (List AV)) (x : Int) : outC (run12 12 [strm bs l q, I x] .e 0 ⟨0, [.b false, .b true, .b true], []⟩) = some (nilS, [], [decide (x < 0), true]) := by kernel_rfl
theorem hid_hi (bs : List Nat) (l : List Tok) (q : List (List AV)) (x : Int) : outC (run12 12 [strm bs l q, I x] .e 0 ⟨0, [.b false, .b false, .b true, .b true], []⟩) = some (nilS, [], [decide (x ≥ q.length), !decide (x < 0), true]) := by kernel_rfl
theorem text_no (bs : List Nat) (l : List Tok) (q : List (List AV)) (x : Int) : outC (runOne Tryd.prog noPu 3000 (known1 13 (fun args => args = [strm bs l q, I x]) (fun _ => .tu [.v (.complex .f64 0 0), I 4]) base) 15 [strm bs l q, I x] .e 0 ⟨0, [.b true], []⟩) = some (.tu [.v (.string (mkString [])), I 4], [], [true, dec (([strm bs l q, I x]) = [strm bs l q, I x])]) := by kernel_rfl

section
variable {bs : List Nat} {l : List Tok} {q : List (List AV)}
theorem span13_bad (hq : q.length = (seenF 0 l).length + 1) {x : Int} (hx : x < 0 ∨ x > (seenF 0 l).length) : ARet Tryd.prog 13 [strm bs l q, I x] [] [] (.tu [.v (.complex .f64 0 0), I 4]) [] := by
  have hc : CallOk Tryd.prog run13 := runOne_ok callR13_ok mixed _ _
  by_cases h0 : x < 0
  · exact aret_of_run (obs := []) hc (span13_lo bs l q x) (ac (decide_eq_true h0) (ac rfl rfl))
  · exact aret_of_run (obs := []) hc (span13_hi bs l q x) (ac (decide_eq_true (by omega)) (ac (nd h0) (ac rfl rfl)))
theorem hidden_bad (hq : q.length = (seenF 0 l).length + 1) {x : Int} (hx : x < 0 ∨ x > (seenF 0 l).length) : ARet Tryd.prog 12 [strm bs l q, I x] [] [] (.sl 4 (toks [])) [] := by
  refine aret_weak (r := nilS) ?_ fun m γ y hy => weak_nil y hy
  by_cases h0 : x < 0
  · exact aret_of_run (obs := []) run12_ok (hid_lo bs l q x) (ac (decide_eq_true h0) (ac rfl rfl))
  · exact aret_of_run (obs := []) run12_ok (hid_hi bs l q x) (ac (decide_eq_true (by omega)) (ac (nd h0) (ac rfl rfl)))
theorem text_bad (hq : q.length = (seenF 0 l).length + 1) (hp : pureRows q = true) {x : Int} (hx : x < 0 ∨ x > (seenF 0 l).length) : ARet Tryd.prog 15 [strm bs l q, I x] [] [] (.tu [.v (.string (mkString [])), I 4]) [] :=
  aret_of_run (obs := []) (runOne_ok (known1_ok (fun args h => by subst h; exact ⟨span13_bad hq hx, by simp [pureVals, pure_strm hp, AV.pure], rfl⟩) base_ok) mixed _ _) (text_no bs l q x) (ac rfl (ac (dec_true.2 rfl) rfl))
theorem callR24_ok (g : OkIn bs l) (hp : pureRows q = true) {m : List Tok} (hm : m.length ≤ 100000) {x : Int} {r13 r15 : AV} (h15 : ARet Tryd.prog 15 [strm bs l q, I x] [] [] r15 []) (h13 : ARet Tryd.prog 13 [strm bs l q, I x] [] [] r13 []) (h12 : ARet Tryd.prog 12 [strm bs l q, I x] [] [] (.sl 4 (toks m)) [])
    (h41 : ARet Tryd.prog 41 [.sl 4 (toks l), I x] [] [] (.sl 4 (toks m)) []) (p15 : r15.pure = true) (p13 : r13.pure = true) : CallOk Tryd.prog (run24 bs l q (toks m) x r13 r15) := by
  have hgn := g.hn
  have hps := pure_strm (bs := bs) (l := l) hp
  refine runOne_ok (known1_ok (fun args h => ?_) (known1_ok (fun args h => ?_) (known1_ok (fun args h => ?_) (known1_ok (fun args h => ?_) (known1_ok (fun args h => ?_) (known1_ok (fun args h => ?_) (known1_ok (fun args h => ?_) base_ok))))))) mixed _ _
  · subst h; exact ⟨refSeen_ok l (by omega), by simp [pureVals, AV.pure, pure_toks], by simp [AV.pure, pure_toks]⟩
  · subst h; exact ⟨h15, by simp [pureVals, hps, AV.pure], p15⟩
  · subst h; exact ⟨h13, by simp [pureVals, hps, AV.pure], p13⟩
  · subst h; exact ⟨h12, by simp [pureVals, hps, AV.pure], by simp [AV.pure, pure_toks]⟩
  · subst h; exact ⟨h41, by simp [pureVals, AV.pure, pure_toks], by simp [AV.pure, pure_toks]⟩
  · subst h; exact ⟨tokens_ok m hm, by simp [pureVals, AV.pure, pure_toks], rfl⟩
  · obtain ⟨a, b, ha, hb, rfl⟩ := h
    exact ⟨rspan_ok ha hb, rfl, rfl⟩
theorem flEq {n : Nat} (h : n ≤ 2000) : (FloatKind.f64.format.order (fb n) (fb n) == some Ordering.eq) = true := by
  have := (fl h).nn
  simpa [bne] using this
theorem beqL_refl (x : List UInt8) : beqL x x = true := by
  induction x with
  | nil => rfl
  | cons a x ih => simp only [beqL, ih]; rw [show Nat.beq a.toNat a.toNat = true from Nat.beq_refl _]; rfl
theorem told_ok (g : OkIn bs l) (hq : q.length = (seenF 0 l).length + 1) (hp : pureRows q = true) (x : Int) : ARet Tryd.prog 24 [strm bs l q, .sl 1 (rowsB bs), .sl 4 (toks l), I x] [] [] (.v (.bool true)) [] := by
  have hgl := g.hl
  have hgn := g.hn
  have hbl := rowsB_len bs
  have hsl := seenF_len l 0
  have hst : (toks (seenT l)).length = (seenF 0 l).length := by rw [toks_len, seenT_len]
  have e0 : ∀ {α : Type} (a : α), dec (a = a) = true := fun a => dec_true.2 rfl
  have tl : ∀ {m : List (List AV)}, allT [dec (([AV.sl 4 m, .sl 4 m]) = [.sl 4 m, .sl 4 m]), dec (([AV.sl 4 (toks l), I x]) = [.sl 4 (toks l), I x]), dec (([strm bs l q, I x]) = [strm bs l q, I x]), true, dec (([strm bs l q, I x]) = [strm bs l q, I x]), dec (([strm bs l q, I x]) = [strm bs l q, I x]), dec (([AV.sl 4 (toks l)]) = [.sl 4 (toks l)])] = true := fun {m} => ac (e0 _) (ac (e0 _) (ac (e0 _) (ac rfl (ac (e0 _) (ac (e0 _) (ac (e0 _) rfl))))))
  by_cases hx : x < 0 ∨ x > (seenF 0 l).length
  · have hc := callR24_ok g hp (m := []) (by simp) (text_bad (bs := bs) hq hp hx) (span13_bad hq hx) (hidden_bad hq hx) (refHidden_bad l (by omega) x hx) rfl rfl
    by_cases h0 : x < 0
    · exact aret_of_run (obs := []) hc (told_lo bs l q (toks []) x) (ac rfl (ac rfl (ac rfl (ac (decide_eq_true h0) tl))))
    · exact aret_of_run (obs := []) hc (told_hi bs l q (toks []) x) (ac rfl (ac rfl (ac rfl (ac (decide_eq_true (by omega)) (ac (nd h0) tl)))))
  · obtain ⟨k, rfl⟩ : ∃ k : Nat, x = k := ⟨x.toNat, by omega⟩
    have hk : k ≤ (seenF 0 l).length := by omega
    have hmt : ((toks l).drop (hidAt l k).1).take ((hidAt l k).2 - (hidAt l k).1) = toks ((l.drop (hidAt l k).1).take ((hidAt l k).2 - (hidAt l k).1)) := toks_piece _ _ _
    have h12 := hidden_ok (bs := bs) (q := q) hgn hq hk
    have h41 := refHidden_ok l (by omega) k hk
    rw [hmt] at h12 h41
    have hm : ((l.drop (hidAt l k).1).take ((hidAt l k).2 - (hidAt l k).1)).length ≤ 100000 := by simp; omega
    have hc := callR24_ok g hp hm (text_ok g hq hp hk) (span13 g hq hk) h12 h41 rfl rfl
    have he := ends_le g k
    by_cases hlt : k < (seenF 0 l).length
    · obtain ⟨i, hi⟩ : ∃ i, (seenF 0 l)[k]? = some i := ⟨_, List.getElem?_eq_getElem hlt⟩
      obtain ⟨_, t, ht, hch⟩ := seenF_get l 0 k i hi
      rw [Nat.sub_zero] at ht
      obtain ⟨_, f1, f2, f3, _⟩ := fairF_tok g.hf t (List.mem_of_getElem? ht)
      have e : endsAt bs l k = (t.fr.toNat, t.to.toNat) := by simp only [endsAt, hi, ht]
      rw [e] at hc
      have hrow : (toks (seenT l))[k]? = some [I t.ty, I t.ch, I (t.fr.toNat : Nat), I (t.to.toNat : Nat)] := by
        rw [← seenT_rows]
        unfold seenR
        rw [List.getElem?_map, List.getElem?_range hlt]
        simp only [Option.map_some, seenAt, hi, ht, tokRow]
        rw [Int.toNat_of_nonneg f1, Int.toNat_of_nonneg (by omega)]
      have p2 : (true && dec ((toks (seenT l))[k]? = some [I t.ty, I t.ch, I (t.fr.toNat : Nat), I (t.to.toNat : Nat)])) = true := by rw [Bool.true_and]; exact dec_true.2 hrow
      exact aret_of_run (obs := []) hc (told_x bs l q _ k (textOf bs (t.fr.toNat, t.to.toNat)) t.ty t.ch t.fr.toNat t.to.toNat)
        (ac (andt (flEq (by omega)) (flEq (by omega))) (ac (dec_true.2 ⟨_, _, by omega, by omega, rfl⟩) (ac p2 (ac p2 (ac (beqL_refl _) (ac (by rw [Bool.true_and]; exact dec_true.2 (strOf_piece bs (t.fr.toNat, t.to.toNat))) (ac (andt (andt (nle (by omega)) (nle (by omega))) rfl) (ac p2 (ac p2 (ac rfl (ac (by simp; omega) (ac (nd (by omega)) (ac rfl tl)))))))))))))
    · obtain rfl : k = (seenF 0 l).length := by omega
      have e : endsAt bs l (seenF 0 l).length = (((rowsB bs).length : Int).toNat, ((rowsB bs).length : Int).toNat) := by simp [endsAt, rowsB_len]
      have et : textOf bs (((rowsB bs).length : Int).toNat, ((rowsB bs).length : Int).toNat) = [] := by simp [textOf]
      rw [e, et] at hc
      have hn0 : ((rowsB bs).length : Int).toNat ≤ 2000 := by omega
      exact aret_of_run (obs := []) hc (told_n bs l q _ _) (ac (andt (flEq hn0) (flEq hn0)) (ac (dec_true.2 ⟨bs.length, bs.length, by omega, by omega, by rw [rowsB_len]⟩) (ac rfl (ac rfl (ac (by simp [hst]) (ac (nd (by omega)) (ac (nd (by omega)) tl)))))))
end
end Go.Proofs.YtifnhnkogcgnaaaDoor
namespace Go.Proofs.YtifnhnkogcgnaaaDoor
open Go.Am
def sbox (bs : List Nat) (l : List Tok) (q : List (List AV)) (k : Int) : List AV := streamC bs l (.sl 5 q) k
/-- told's arguments behind the stream -/
def ToldArg (bs : List Nat) (l : List Tok) (q : List (List AV)) (cs rest : List AV) : Prop := ∃ k x : Int, cs = sbox bs l q k ∧ rest = [.sl 1 (rowsB bs), .sl 4 (toks l), I x]
def BoxArg (bs : List Nat) (l : List Tok) (q : List (List AV)) (cs rest : List AV) : Prop := ∃ k : Int, cs = sbox bs l q k ∧ rest = []
noncomputable def callR4 (bs : List Nat) (l : List Tok) (q : List (List AV)) : CallF :=
  known1 7 (fun args => args = []) tv' (knownP 8 (fun args => args = [.sl 1 (rowsB bs), .sl 4 (toks l)]) (fun _ N => .tu [.pt N 0, I 0]) (fun _ _ => [.box (sbox bs l q 0)])
  (known1 17 (fun args => args = [.sl 1 (rowsB bs), .sl 4 (toks l)]) tv' (knownB 9 (BoxArg bs l q) (fun _ _ => .sl 5 q) (knownB 10 (BoxArg bs l q) (fun _ _ => .sl 4 (toks (seenT l)))
  (known1 18 (fun args => args = [.sl 5 q, .sl 5 q]) tv' (known1 19 (fun args => args = [.sl 1 (rowsB bs), .sl 4 (toks l)]) (fun _ => .sl 5 q) (known1 20 (fun args => args = [.sl 4 (toks l)]) (fun _ => .sl 4 (toks (seenT l)))
  (known1 16 (fun args => args = [.sl 4 (toks (seenT l)), .sl 4 (toks (seenT l))]) tv' (knownB 24 (ToldArg bs l q) (fun _ _ => .v (.bool true)) base)))))))))
noncomputable def b4 : Nat → Code
  | 0 => bodyOf 4
  | k + 1 => sq2 (b4 k)
noncomputable def hd4 : List Code := [sq1 (b4 0), sq1 (b4 1), sq1 (b4 2), sq1 (b4 3), sq1 (b4 4), sq1 (b4 5), sq1 (b4 6)]
noncomputable def h4 : Code := sq1 (sq1 (b4 7))
noncomputable def lp4 : Code := inn (sq2 (sq1 (b4 7)))
noncomputable def tl4 : Code := sq2 (b4 7)
def playL (bs : List Nat) (l : List Tok) (q a : List (List AV)) (k i : Int) : Am.Loc := [(0, .sl 1 (rowsB bs)), (1, .sl 4 (toks l)), (2, .sl 2 a), (7, .pt 0 0), (9, .sl 5 q), (10, I k), (11, I i)]
theorem play_head (bs : List Nat) (l : List Tok) (q a : List (List AV)) : outR [0, 1, 2, 7, 9, 10, 11] [0] (runL Tryd.prog 182 (callR4 bs l q) noPu 3000 (hd4 ++ [h4]) (argT 0 [.sl 1 (rowsB bs), .sl 4 (toks l), .sl 2 a] .e) .e 0 ⟨0, [.b false, .b false, .b false, .b false, .b false, .b true], []⟩) = some (.normal, [some (.sl 1 (rowsB bs)), some (.sl 4 (toks l)), some (.sl 2 a), some (.pt 0 0), some (.sl 5 q), some (I (0)), some (I (0))], [some (.box (sbox bs l q 0))], 1, [dec (([AV.sl 1 (rowsB bs), .sl 4 (toks l)]) = [.sl 1 (rowsB bs), .sl 4 (toks l)]), dec (([AV.sl 4 (toks (seenT l)), .sl 4 (toks (seenT l))]) = [.sl 4 (toks (seenT l)), .sl 4 (toks (seenT l))]), dec (([AV.sl 4 (toks l)]) = [.sl 4 (toks l)]), dec (BoxArg bs l q (sbox bs l q 0) []), dec (([AV.sl 5 q, .sl 5 q]) = [.sl 5 q, .sl 5 q]), dec (([AV.sl 1 (rowsB bs), .sl 4 (toks l)]) = [.sl 1 (rowsB bs), .sl 4 (toks l)]), dec (BoxArg bs l q (sbox bs l q 0) []), true, true, dec (([AV.sl 1 (rowsB bs), .sl 4 (toks l)]) = [.sl 1 (rowsB bs), .sl 4 (toks l)]), dec (([AV.sl 1 (rowsB bs), .sl 4 (toks l)]) = [.sl 1 (rowsB bs), .sl 4 (toks l)]), !decide ((a.length : Int) > 200), !decide (((toks l).length : Int) > 400), !decide (((rowsB bs).length : Int) > 2000)]) := by kernel_rfl
theorem play_g1 (bs : List Nat) (l : List Tok) (a : List (List AV)) : outC (runOne Tryd.prog noPu 3000 callG 4 [.sl 1 (rowsB bs), .sl 4 (toks l), .sl 2 a] .e 0 ⟨0, [.b true, .b true], []⟩) = some (.v (.bool true), [], [dec (([] : List AV) = []), decide (((rowsB bs).length : Int) > 2000)]) := by kernel_rfl
theorem play_g2 (bs : List Nat) (l : List Tok) (a : List (List AV)) : outC (runOne Tryd.prog noPu 3000 callG 4 [.sl 1 (rowsB bs), .sl 4 (toks l), .sl 2 a] .e 0 ⟨0, [.b false, .b true, .b true], []⟩) = some (.v (.bool true), [], [dec (([] : List AV) = []), decide (((toks l).length : Int) > 400), !decide (((rowsB bs).length : Int) > 2000)]) := by kernel_rfl
theorem play_g3 (bs : List Nat) (l : List Tok) (a : List (List AV)) : outC (runOne Tryd.prog noPu 3000 callG 4 [.sl 1 (rowsB bs), .sl 4 (toks l), .sl 2 a] .e 0 ⟨0, [.b false, .b false, .b true, .b true], []⟩) = some (.v (.bool true), [], [dec (([] : List AV) = []), decide ((a.length : Int) > 200), !decide (((toks l).length : Int) > 400), !decide (((rowsB bs).length : Int) > 2000)]) := by kernel_rfl
noncomputable def callN4 (bs : List Nat) (l : List Tok) : CallF := known1 7 (fun args => args = []) tv' (known1 8 (fun args => args = [.sl 1 (rowsB bs), .sl 4 (toks l)]) (fun _ => .tu [.v (.pointer none), I 2]) (known1 17 (fun args => args = [.sl 1 (rowsB bs), .sl 4 (toks l)]) (fun _ => .v (.bool false)) base))
theorem play_no (bs : List Nat) (l : List Tok) (a : List (List AV)) : outC (runOne Tryd.prog noPu 3000 (callN4 bs l) 4 [.sl 1 (rowsB bs), .sl 4 (toks l), .sl 2 a] .e 0 ⟨0, [.b false, .b false, .b false, .b true, .b true, .b true], []⟩) = some (.v (.bool true), [], [dec (([] : List AV) = []), true, true, dec (([AV.sl 1 (rowsB bs), .sl 4 (toks l)]) = [.sl 1 (rowsB bs), .sl 4 (toks l)]), dec (([AV.sl 1 (rowsB bs), .sl 4 (toks l)]) = [.sl 1 (rowsB bs), .sl 4 (toks l)]), !decide ((a.length : Int) > 200), !decide (((toks l).length : Int) > 400), !decide (((rowsB bs).length : Int) > 2000)]) := by kernel_rfl
theorem play_out (bs : List Nat) (l : List Tok) (q a : List (List AV)) (k i : Nat) : lastC Tryd.prog [.tmp 6] 0 (lastR Tryd.prog 182 (callR4 bs l q) noPu 3000 0 tl4 (runCode Tryd.prog 182 (callR4 bs l q) noPu 3000 lp4 (triM (playL bs l q a k i)) (triO [.box (sbox bs l q k)]) 1 ⟨1, [.b false, .b true], []⟩)) = some (.v (.bool true), [], [dec (([] : List AV) = []), !decide ((i : Int) < a.length)]) := by kernel_rfl
theorem play_t0 (bs : List Nat) (l : List Tok) (q a : List (List AV)) (i k : Nat) (d n : Int) : outR [0, 1, 2, 7, 9, 10, 11] [0] (runCode Tryd.prog 182 (callR4 bs l q) noPu 3000 lp4 (triM (playL bs l q a k i)) (triO [.box (sbox bs l q k)]) 1 ⟨1, [.b true, .row [I d, I n], .row [I d, I n], .b true, .b false, .b true, .b true, .b false, .b false, .b false, .b false, .int (i + 1 : Nat), .b true], []⟩) = some (.normal, [some (.sl 1 (rowsB bs)), some (.sl 4 (toks l)), some (.sl 2 a), some (.pt 0 0), some (.sl 5 q), some (I (k : Nat)), some (I (i + 1 : Nat))], [some (.box (sbox bs l q (k : Nat)))], 3, [dec (IntKind.i64.wrap ((i : Int) + 1) = (i + 1 : Nat)), !(((k : Nat) : Int) != (k : Nat)), true, true, true, decide ((k : Int) ≥ q.length), decide ((k : Int) ≥ q.length), true, d == 0, true && dec (a[i]? = some [I d, I n]), true && dec (a[i]? = some [I d, I n]), decide ((i : Int) < a.length)]) := by kernel_rfl
theorem play_t1 (bs : List Nat) (l : List Tok) (q a : List (List AV)) (i k : Nat) (d n : Int) (ty ix co tk : Int) : outR [0, 1, 2, 7, 9, 10, 11] [0] (runCode Tryd.prog 182 (callR4 bs l q) noPu 3000 lp4 (triM (playL bs l q a k i)) (triO [.box (sbox bs l q k)]) 1 ⟨1, [.b true, .row [I d, I n], .row [I d, I n], .b true, .b false, .b false, .int (k + 1 : Nat), .int k, .row [I ty, I ix, I co, .v (.bool false), I tk], .b false, .b false, .row [I ty, I ix, I co, .v (.bool false), I tk], .b false, .int (k + 1 : Nat), .b false, .b false, .int (i + 1 : Nat), .b true], []⟩) = some (.normal, [some (.sl 1 (rowsB bs)), some (.sl 4 (toks l)), some (.sl 2 a), some (.pt 0 0), some (.sl 5 q), some (I (k + 1 : Nat)), some (I (i + 1 : Nat))], [some (.box (sbox bs l q (k + 1 : Nat)))], 3, [dec (IntKind.i64.wrap ((i : Int) + 1) = (i + 1 : Nat)), !(((k + 1 : Nat) : Int) != (k + 1 : Nat)), true, dec (IntKind.i64.wrap ((k : Int) + 1) = (k + 1 : Nat)), !(!(decide (ty = ty) && (decide (ix = ix) && (decide (co = co) && (true && (decide (tk = tk) && true)))))), true && dec (q[k]? = some [I ty, I ix, I co, .v (.bool false), I tk]), true, !decide ((k : Int) ≥ q.length), true && dec (q[k]? = some [I ty, I ix, I co, .v (.bool false), I tk]), dec (IntKind.i64.wrap (((k + 1 : Nat) : Int) - 1) = k), dec (IntKind.i64.wrap ((k : Int) + 1) = (k + 1 : Nat)), !decide ((k : Int) ≥ q.length), true, d == 0, true && dec (a[i]? = some [I d, I n]), true && dec (a[i]? = some [I d, I n]), decide ((i : Int) < a.length)]) := by kernel_rfl
theorem play_g_lo (bs : List Nat) (l : List Tok) (q a : List (List AV)) (i k : Nat) (d n : Int) : outR [0, 1, 2, 7, 9, 10, 11] [0] (runCode Tryd.prog 182 (callR4 bs l q) noPu 3000 lp4 (triM (playL bs l q a k i)) (triO [.box (sbox bs l q k)]) 1 ⟨1, [.b true, .row [I d, I n], .row [I d, I n], .b false, .b true, .b false, .b true, .b false, .b false, .b false, .b false, .b false, .b false, .int (i + 1 : Nat), .b true], []⟩) = some (.normal, [some (.sl 1 (rowsB bs)), some (.sl 4 (toks l)), some (.sl 2 a), some (.pt 0 0), some (.sl 5 q), some (I (k : Nat)), some (I (i + 1 : Nat))], [some (.box (sbox bs l q (k : Nat)))], 1, [dec (IntKind.i64.wrap ((i : Int) + 1) = (i + 1 : Nat)), !(((k : Nat) : Int) != (k : Nat)), true, true, true, true, !decide (n ≥ 0), decide (n < 0), true, d == 1, !(d == 0), true && dec (a[i]? = some [I d, I n]), true && dec (a[i]? = some [I d, I n]), decide ((i : Int) < a.length)]) := by kernel_rfl
theorem play_g_hi (bs : List Nat) (l : List Tok) (q a : List (List AV)) (i k : Nat) (d n : Int) : outR [0, 1, 2, 7, 9, 10, 11] [0] (runCode Tryd.prog 182 (callR4 bs l q) noPu 3000 lp4 (triM (playL bs l q a k i)) (triO [.box (sbox bs l q k)]) 1 ⟨1, [.b true, .row [I d, I n], .row [I d, I n], .b false, .b true, .b false, .b false, .b true, .b true, .b false, .b false, .b false, .b false, .b false, .b false, .int (i + 1 : Nat), .b true], []⟩) = some (.normal, [some (.sl 1 (rowsB bs)), some (.sl 4 (toks l)), some (.sl 2 a), some (.pt 0 0), some (.sl 5 q), some (I (k : Nat)), some (I (i + 1 : Nat))], [some (.box (sbox bs l q (k : Nat)))], 1, [dec (IntKind.i64.wrap ((i : Int) + 1) = (i + 1 : Nat)), !(((k : Nat) : Int) != (k : Nat)), true, true, true, true, !decide (n ≤ q.length), decide (n ≥ 0), decide (n > q.length), !decide (n < 0), true, d == 1, !(d == 0), true && dec (a[i]? = some [I d, I n]), true && dec (a[i]? = some [I d, I n]), decide ((i : Int) < a.length)]) := by kernel_rfl
theorem play_g_ok (bs : List Nat) (l : List Tok) (q a : List (List AV)) (i k : Nat) (d : Int) (j : Nat) : outR [0, 1, 2, 7, 9, 10, 11] [0] (runCode Tryd.prog 182 (callR4 bs l q) noPu 3000 lp4 (triM (playL bs l q a k i)) (triO [.box (sbox bs l q k)]) 1 ⟨1, [.b true, .row [I d, I j], .row [I d, I j], .b false, .b true, .b false, .b false, .b false, .b true, .b true, .b true, .b false, .b false, .b false, .int (i + 1 : Nat), .b true], []⟩) = some (.normal, [some (.sl 1 (rowsB bs)), some (.sl 4 (toks l)), some (.sl 2 a), some (.pt 0 0), some (.sl 5 q), some (I (j : Nat)), some (I (i + 1 : Nat))], [some (.box (sbox bs l q (j : Nat)))], 1, [dec (IntKind.i64.wrap ((i : Int) + 1) = (i + 1 : Nat)), !(((j : Nat) : Int) != (j : Nat)), true, true, true, decide ((j : Int) ≤ q.length), true, !decide ((j : Int) > q.length), true, true, d == 1, !(d == 0), true && dec (a[i]? = some [I d, I j]), true && dec (a[i]? = some [I d, I j]), decide ((i : Int) < a.length)]) := by kernel_rfl
theorem play_l_lo (bs : List Nat) (l : List Tok) (q a : List (List AV)) (i k : Nat) (d n : Int) : outR [0, 1, 2, 7, 9, 10, 11] [0] (runCode Tryd.prog 182 (callR4 bs l q) noPu 3000 lp4 (triM (playL bs l q a k i)) (triO [.box (sbox bs l q k)]) 1 ⟨1, [.b true, .row [I d, I n], .row [I d, I n], .b false, .b false, .b true, .b false, .b false, .b true, .b false, .b false, .b false, .int (i + 1 : Nat), .b true], []⟩) = some (.normal, [some (.sl 1 (rowsB bs)), some (.sl 4 (toks l)), some (.sl 2 a), some (.pt 0 0), some (.sl 5 q), some (I (k : Nat)), some (I (i + 1 : Nat))], [some (.box (sbox bs l q (k : Nat)))], 1, [dec (IntKind.i64.wrap ((i : Int) + 1) = (i + 1 : Nat)), !(((k : Nat) : Int) != (k : Nat)), true, true, decide (n < IntKind.i64.wrap (0 - (k : Int))), true, !decide (n ≥ IntKind.i64.wrap (0 - (k : Int))), d == 2, !(d == 1), !(d == 0), true && dec (a[i]? = some [I d, I n]), true && dec (a[i]? = some [I d, I n]), decide ((i : Int) < a.length)]) := by kernel_rfl
theorem play_l_hi (bs : List Nat) (l : List Tok) (q a : List (List AV)) (i k : Nat) (d n : Int) : outR [0, 1, 2, 7, 9, 10, 11] [0] (runCode Tryd.prog 182 (callR4 bs l q) noPu 3000 lp4 (triM (playL bs l q a k i)) (triO [.box (sbox bs l q k)]) 1 ⟨1, [.b true, .row [I d, I n], .row [I d, I n], .b false, .b false, .b true, .b true, .int (q.length - k), .b false, .b false, .b false, .int (q.length - k), .b true, .b false, .b false, .b false, .int (i + 1 : Nat), .b true], []⟩) = some (.normal, [some (.sl 1 (rowsB bs)), some (.sl 4 (toks l)), some (.sl 2 a), some (.pt 0 0), some (.sl 5 q), some (I (k : Nat)), some (I (i + 1 : Nat))], [some (.box (sbox bs l q (k : Nat)))], 1, [dec (IntKind.i64.wrap ((i : Int) + 1) = (i + 1 : Nat)), !(((k : Nat) : Int) != (k : Nat)), true, true, decide (n ≥ (q.length : Int) - k), dec (IntKind.i64.wrap ((q.length : Int) - k) = (q.length : Int) - k), !decide (n < IntKind.i64.wrap (0 - (k : Int))), true, !decide (n < (q.length : Int) - k), dec (IntKind.i64.wrap ((q.length : Int) - k) = (q.length : Int) - k), decide (n ≥ IntKind.i64.wrap (0 - (k : Int))), d == 2, !(d == 1), !(d == 0), true && dec (a[i]? = some [I d, I n]), true && dec (a[i]? = some [I d, I n]), decide ((i : Int) < a.length)]) := by kernel_rfl
theorem play_l_ok (bs : List Nat) (l : List Tok) (q a : List (List AV)) (i k : Nat) (d n : Int) (j : Nat) (ty ix co tk : Int) : outR [0, 1, 2, 7, 9, 10, 11] [0] (runCode Tryd.prog 182 (callR4 bs l q) noPu 3000 lp4 (triM (playL bs l q a k i)) (triO [.box (sbox bs l q k)]) 1 ⟨1, [.b true, .row [I d, I n], .row [I d, I n], .b false, .b false, .b true, .b true, .int (q.length - k), .b true, .int j, .row [I ty, I ix, I co, .v (.bool false), I tk], .b false, .b false, .int (q.length - k), .b false, .int j, .row [I ty, I ix, I co, .v (.bool false), I tk], .b false, .b false, .b false, .int (i + 1 : Nat), .b true], []⟩) = some (.normal, [some (.sl 1 (rowsB bs)), some (.sl 4 (toks l)), some (.sl 2 a), some (.pt 0 0), some (.sl 5 q), some (I (k : Nat)), some (I (i + 1 : Nat))], [some (.box (sbox bs l q (k : Nat)))], 1, [dec (IntKind.i64.wrap ((i : Int) + 1) = (i + 1 : Nat)), !(((k : Nat) : Int) != (k : Nat)), true, !(ty != ty), true && dec (q[j]? = some [I ty, I ix, I co, .v (.bool false), I tk]), dec (IntKind.i64.wrap ((k : Int) + n) = (j : Nat)), !decide (n ≥ (q.length : Int) - k), dec (IntKind.i64.wrap ((q.length : Int) - k) = (q.length : Int) - k), !decide (n < IntKind.i64.wrap (0 - (k : Int))), true, true && dec (q[j]? = some [I ty, I ix, I co, .v (.bool false), I tk]), dec (IntKind.i64.wrap ((k : Int) + n) = (j : Nat)), decide (n < (q.length : Int) - k), dec (IntKind.i64.wrap ((q.length : Int) - k) = (q.length : Int) - k), decide (n ≥ IntKind.i64.wrap (0 - (k : Int))), d == 2, !(d == 1), !(d == 0), true && dec (a[i]? = some [I d, I n]), true && dec (a[i]? = some [I d, I n]), decide ((i : Int) < a.length)]) := by kernel_rfl
theorem play_told (bs : List Nat) (l : List Tok) (q a : List (List AV)) (i k : Nat) (d n : Int) : outR [0, 1, 2, 7, 9, 10, 11] [0] (runCode Tryd.prog 182 (callR4 bs l q) noPu 3000 lp4 (triM (playL bs l q a k i)) (triO [.box (sbox bs l q k)]) 1 ⟨1, [.b true, .row [I d, I n], .row [I d, I n], .b false, .b false, .b false, .b false, .b false, .int (i + 1 : Nat), .b true], []⟩) = some (.normal, [some (.sl 1 (rowsB bs)), some (.sl 4 (toks l)), some (.sl 2 a), some (.pt 0 0), some (.sl 5 q), some (I (k : Nat)), some (I (i + 1 : Nat))], [some (.box (sbox bs l q (k : Nat)))], 1, [dec (IntKind.i64.wrap ((i : Int) + 1) = (i + 1 : Nat)), !(((k : Nat) : Int) != (k : Nat)), true, dec (ToldArg bs l q (sbox bs l q k) [.sl 1 (rowsB bs), .sl 4 (toks l), I n]), !(d == 2), !(d == 1), !(d == 0), true && dec (a[i]? = some [I d, I n]), true && dec (a[i]? = some [I d, I n]), decide ((i : Int) < a.length)]) := by kernel_rfl
theorem items9_live (bs : List Nat) (l : List Tok) (q : List (List AV)) (k : Int) : outC (run9 9 [.pt 0 0] (triO [.box (sbox bs l q k)]) 1 ⟨1, [.b false, .b true], []⟩) = some (.sl 5 q, [some (.box (sbox bs l q k))], [dec (CloneArg 5 [.sl 5 q]), true]) := by kernel_rfl

/-! ### The plain law -/
section
variable {bs : List Nat} {l : List Tok}
theorem pure_sbox {q : List (List AV)} (hp : pureRows q = true) (k : Int) : pureVals (sbox bs l q k) = true := by simp [sbox, streamC, pureVals, AV.pure, pure_bytes, pure_toks, pure_rowsI, hp]
theorem new_live0 {ob1 : List Ob} {o m : Nat} {rows : List (List AV)} (h : ARet Tryd.prog 8 [.sl 1 (rowsB bs), .sl 4 (toks l)] [] [] (.tu [.pt 0 0, I 0]) (.box (streamC bs l (.sr (o + 1) 5 0 m) 0) :: ob1)) (ho : ob1[o]? = some (.row 52 5 rows)) (hm : m = rows.length) (hp : pureRows rows = true) :
    ARet Tryd.prog 8 [.sl 1 (rowsB bs), .sl 4 (toks l)] [] [] (.tu [.pt 0 0, I 0]) [.box (sbox bs l rows 0)] := by
  have h1 := aret_frz (ob2 := .box (streamC bs l (.sl 5 rows) 0) :: ob1.map fun _ => .dead) (r' := .tu [.pt 0 0, I 0]) h (o := o + 1) (X := .row 52 5 rows) (by simpa using ho) (.inl ⟨_, _, _, rfl⟩) (Frz.same _) (by simp) (fun i Y Y' e1 e2 => by
    cases i with
    | zero =>
      simp at e1 e2
      subst e1; subst e2
      exact .inr ⟨by omega, .box (.cons (Frz.same _) (.cons (Frz.same _) (.cons (Frz.sr0 rfl hm) (FrzL.same _))))⟩
    | succ i =>
      simp at e2
      exact .inl e2.2.symm)
  exact aret_drop (ob' := [.box (sbox bs l rows 0)]) (h1.mono fun e o hh => ⟨hh.1, ob1.map (fun _ => Ob.dead), hh.2⟩) (Nat.zero_le _) rfl (by simp [Ob.und, undVals_pure _ _ (pure_sbox hp 0)])
theorem new_live (g : OkIn bs l) : ARet Tryd.prog 8 [.sl 1 (rowsB bs), .sl 4 (toks l)] [] [] (.tu [.pt 0 0, I 0]) [.box (sbox bs l (itemsAll bs l) 0)] := by
  have hgl := g.hl
  have hgn := g.hn
  have h := new_raw g.hb (by omega) (by omega) g.hf _ rfl
  have hlast : itemAt bs l (seenF 0 l).length = itemRow 0 (seenF 0 l).length (placeOf bs bs.length).2 := by simp [itemAt]
  unfold itemsAll
  have e1 := itemsOf_succ bs l (seenF 0 l).length
  rw [hlast] at e1
  generalize hs : (seenF 0 l).length = n at h e1
  cases n with
  | zero => exact new_live0 (o := 2) h (by rw [e1]; rfl) (by rw [itemsOf_len]) (pure_items _ _ _)
  | succ k => exact new_live0 (o := 3) h (by rw [e1]; rfl) (by rw [itemsOf_len]) (pure_items _ _ _)
theorem items_live {q : List (List AV)} (hq : Rows1 q) (k : Int) : ARet Tryd.prog 9 [.pt 0 0] [.box (sbox bs l q k)] [] (.sl 5 q) [.box (sbox bs l q k)] :=
  aret_of_runB (runOne_ok (known1_ok (clone_known clone35) base_ok) mixed _ _) (items9_live bs l q k) (ac (dec_true.2 ⟨_, rfl, hq⟩) (ac rfl rfl))
theorem seen_v (l : List Tok) : ∀ c ∈ (seenR l (seenF 0 l).length).flatten, ∃ x, c = AV.v x := by
  rw [seenT_rows]
  intro c hc
  obtain ⟨r, hr, hc⟩ := List.mem_flatten.1 hc
  obtain ⟨t, _, rfl⟩ := List.mem_map.1 hr
  simp [tokRow] at hc
  rcases hc with rfl | rfl | rfl | rfl <;> exact ⟨_, rfl⟩
theorem seen_live {q : List (List AV)} (hn : l.length ≤ 400) (hp : pureRows q = true) (k : Int) : ARet Tryd.prog 10 [.pt 0 0] [.box (sbox bs l q k)] [] (.sl 4 (toks (seenT l))) [.box (sbox bs l q k)] := by
  have h := seen_raw (bs := bs) (q := q) hn hp _ rfl
  have hv := seen_v l
  have hs : pureVals (strm4 bs l q ++ [I k]) = true := pure_sbox hp k
  rw [← seenT_rows]
  generalize (seenF 0 l).length = n at h hv
  cases n with
  | zero => exact aret_weak (r := nilS) (aret_thaw (cs := strm4 bs l q) (ds := [I k]) (rest := []) h hs rfl) fun m γ x hx => weak_nil x hx
  | succ j => exact aret_thawSl (cs := strm4 bs l q) (ds := [I k]) (rest := []) h (by rw [seenR_len]) hs rfl hv (pure_seenR _ _)
theorem item_row (bs : List Nat) (l : List Tok) {k : Nat} (hk : k < (itemsAll bs l).length) : ∃ ty ix co tk : Int, (itemsAll bs l)[k]? = some [I ty, I ix, I co, .v (.bool false), I tk] := by
  rw [itemsAll_len] at hk
  have hget : (itemsAll bs l)[k]? = some (itemAt bs l k) := by
    unfold itemsAll itemsOf
    rw [List.getElem?_map, List.getElem?_range hk]
    rfl
  rw [hget]
  by_cases h : k < (seenF 0 l).length
  · obtain ⟨i, hi⟩ : ∃ i, (seenF 0 l)[k]? = some i := ⟨_, List.getElem?_eq_getElem h⟩
    obtain ⟨_, t, ht, _⟩ := seenF_get l 0 k i hi
    rw [Nat.sub_zero] at ht
    exact ⟨t.ty, k, ((placeOf bs t.fr.toNat).2 : Nat), k, by simp only [itemAt, hi, ht]; rfl⟩
  · have hn : (seenF 0 l)[k]? = none := List.getElem?_eq_none (by omega)
    exact ⟨0, k, ((placeOf bs bs.length).2 : Nat), k, by simp only [itemAt, hn]; rfl⟩
theorem callR4_ok (g : OkIn bs l) : CallOk Tryd.prog (callR4 bs l (itemsAll bs l)) := by
  have hgl := g.hl
  have hgn := g.hn
  have hil := itemsAll_len (bs := bs) (l := l)
  have hsl := seenF_len l 0
  have hpi := pure_itemsAll (bs := bs) (l := l)
  have hps := fun k => pure_sbox (bs := bs) (l := l) hpi k
  refine known1_ok (fun args h => ?_) (knownP_ok (fun args h => ?_) (known1_ok (fun args h => ?_) (knownB_ok (fun cs rest h => ?_) (knownB_ok (fun cs rest h => ?_) (known1_ok (fun args h => ?_) (known1_ok (fun args h => ?_) (known1_ok (fun args h => ?_) (known1_ok (fun args h => ?_) (knownB_ok (fun cs rest h => ?_) base_ok)))))))))
  · subst h; exact ⟨wakes_ok, rfl, rfl⟩
  · subst h
    exact ⟨_, _, new_live g, by simp [pureVals, AV.pure, pure_bytes, pure_toks], fun N => ⟨by simp [AV.ren, renVals, fsel], by simp [Ob.ren, renVals_pure _ _ (hps 0)]⟩⟩
  · subst h
    exact ⟨refFair_ok bs g.hb (by omega) l (by omega) true (dec_true.2 g.hf).symm, by simp [pureVals, AV.pure, pure_bytes, pure_toks], rfl⟩
  · obtain ⟨k, rfl, rfl⟩ := h
    exact ⟨items_live (rows1_items g) k, hps k, rfl, by simp [AV.pure, hpi]⟩
  · obtain ⟨k, rfl, rfl⟩ := h
    exact ⟨seen_live hgn hpi k, hps k, rfl, by simp [AV.pure, pure_toks]⟩
  · subst h; exact ⟨itemsEq_ok _ hpi (by omega) fun k hk => item_row bs l hk, by simp [pureVals, AV.pure, hpi], rfl⟩
  · subst h; exact ⟨refItems_ok bs l g.hb (by omega) (by omega) g.hf, by simp [pureVals, AV.pure, pure_bytes, pure_toks], by simp [AV.pure, hpi]⟩
  · subst h; exact ⟨refSeen_ok l (by omega), by simp [pureVals, AV.pure, pure_toks], by simp [AV.pure, pure_toks]⟩
  · subst h; exact ⟨tokens_ok _ (by rw [seenT_len]; omega), by simp [pureVals, AV.pure, pure_toks], rfl⟩
  · obtain ⟨k, x, rfl, rfl⟩ := h
    exact ⟨aret_thaw (cs := strm4 bs l (itemsAll bs l)) (ds := [I k]) (told_ok g hil hpi x) (hps k) (by simp [pureVals, AV.pure, pure_bytes, pure_toks]), hps k, by simp [pureVals, AV.pure, pure_bytes, pure_toks], rfl⟩
/-- acts, as rows -/
def actR (acts : List (Int × Int)) : List (List AV) := acts.map fun p => [I p.1, I p.2]
theorem actR_len (acts : List (Int × Int)) : (actR acts).length = acts.length := by simp [actR]
theorem pure_actR (acts : List (Int × Int)) : pureRows (actR acts) = true := pure_rows fun r hr => by
  obtain ⟨p, _, rfl⟩ := List.mem_map.1 hr
  rfl
theorem actR_at {acts : List (Int × Int)} {i : Nat} {p : Int × Int} (h : acts[i]? = some p) : (actR acts)[i]? = some [I p.1, I p.2] := by
  unfold actR
  rw [List.getElem?_map, h]
  rfl
theorem play_main (g : OkIn bs l) (acts : List (Int × Int)) (ha : acts.length ≤ 200) : ARet Tryd.prog 4 [.sl 1 (rowsB bs), .sl 4 (toks l), .sl 2 (actR acts)] [] [] (.v (.bool true)) [] := by
  have hgl := g.hl
  have hgn := g.hn
  have hsl := seenF_len l 0
  have htl := toks_len l
  have hbl := rowsB_len bs
  have hal := actR_len acts
  have hql := itemsAll_len (bs := bs) (l := l)
  have hpi := pure_itemsAll (bs := bs) (l := l)
  have hps := fun k => pure_sbox (bs := bs) (l := l) hpi k
  have hren : ∀ N k i, renL (fsel [0] N) (playL bs l (itemsAll bs l) (actR acts) k i) = [some (.sl 1 (rowsB bs)), some (.sl 4 (toks l)), some (.sl 2 (actR acts)), some (.pt 0 0), some (.sl 5 (itemsAll bs l)), some (I k), some (I i)] := fun N k i => by
    simp [renL, playL, AV.ren, fsel, renRows_pure _ _ (pure_bytes bs), renRows_pure _ _ (pure_toks l), renRows_pure _ _ hpi, renRows_pure _ _ (pure_actR acts)]
  have hrenO : ∀ f k, renO f [.box (sbox bs l (itemsAll bs l) k)] = [some (.box (sbox bs l (itemsAll bs l) k))] := fun f k => by simp [renO, Ob.ren, renVals_pure _ _ (hps k)]
  have e0 : ∀ {α : Type} (a : α), dec (a = a) = true := fun a => dec_true.2 rfl
  have hbx : dec (BoxArg bs l (itemsAll bs l) (sbox bs l (itemsAll bs l) 0) []) = true := dec_true.2 ⟨0, rfl, rfl⟩
  refine aret_loop2 (callR4_ok g) mixed (pu := noPu) (lf := 3000) (fn := Tryd.f4) (hs := hd4) (H := h4) (id := 0) (c := lp4) (B := tl4) rfl rfl rfl (Nat.le_of_ble_eq_true rfl) rfl rfl
    (ι := Nat × Nat) (fun y => playL bs l (itemsAll bs l) (actR acts) y.2 y.1) (fun y => [.box (sbox bs l (itemsAll bs l) y.2)]) (fun y => y.1 ≤ acts.length ∧ y.2 ≤ (itemsAll bs l).length) (fun y => acts.length - y.1) (0, 0) ⟨Nat.zero_le _, Nat.zero_le _⟩ ?_ ?_
  · exact head_of (L' := playL bs l (itemsAll bs l) (actR acts) (0 : Nat) (0 : Nat)) (ob' := [.box (sbox bs l (itemsAll bs l) (0 : Nat))]) (play_head bs l (itemsAll bs l) (actR acts))
      (ac (e0 _) (ac (e0 _) (ac (e0 _) (ac hbx (ac (e0 _) (ac (e0 _) (ac hbx (ac rfl (ac rfl (ac (e0 _) (ac (e0 _) (ac (nd (by omega)) (ac (nd (by omega)) (ac (nd (by omega)) rfl)))))))))))))) rfl (hren _ _ _) (hrenO _ _)
  · rintro ⟨i, k⟩ ⟨hi, hk⟩
    simp only at hi hk ⊢
    by_cases hia : i < acts.length
    · left
      obtain ⟨⟨d, n⟩, hp⟩ : ∃ p, acts[i]? = some p := ⟨_, List.getElem?_eq_getElem hia⟩
      have hrow := actR_at hp
      simp only at hrow
      have p0 : decide ((i : Int) < (actR acts).length) = true := decide_eq_true (by omega)
      have p1 : (true && dec ((actR acts)[i]? = some [I d, I n])) = true := by rw [Bool.true_and]; exact dec_true.2 hrow
      have p5 : dec (IntKind.i64.wrap ((i : Int) + 1) = (i + 1 : Nat)) = true := dec_true.2 ((wrap64 (by omega) (by omega)).trans (by omega))
      have ps : ∀ k : Nat, (!((k : Int) != (k : Int))) = true := fun k => by simp
      have nk : IntKind.i64.wrap (0 - (k : Int)) = 0 - (k : Int) := wrap64 (by omega) (by omega)
      have lk : dec (IntKind.i64.wrap (((itemsAll bs l).length : Int) - k) = ((itemsAll bs l).length : Int) - k) = true := dec_true.2 (wrap64 (by omega) (by omega))
      have pk : dec (IntKind.i64.wrap ((k : Int) + 1) = (k + 1 : Nat)) = true := dec_true.2 ((wrap64 (by omega) (by omega)).trans (by omega))
      by_cases hd0 : d = 0
      · subst hd0
        by_cases hkl : k < (itemsAll bs l).length
        · obtain ⟨ty, ix, co, tk, hq⟩ := item_row bs l hkl
          have pq : (true && dec ((itemsAll bs l)[k]? = some [I ty, I ix, I co, .v (.bool false), I tk])) = true := by rw [Bool.true_and]; exact dec_true.2 hq
          refine ⟨(i + 1, k + 1), ⟨hia, hkl⟩, by simp only; omega, step_of (L' := playL bs l (itemsAll bs l) (actR acts) (k + 1 : Nat) (i + 1 : Nat)) (ob' := [.box (sbox bs l (itemsAll bs l) (k + 1 : Nat))]) (play_t1 bs l (itemsAll bs l) (actR acts) i k 0 n ty ix co tk)
            (ac p5 (ac (ps _) (ac rfl (ac pk (ac (by simp) (ac pq (ac rfl (ac (nd (by omega)) (ac pq (ac (dec_true.2 ((wrap64 (by omega) (by omega)).trans (by omega))) (ac pk (ac (nd (by omega)) (ac rfl (ac rfl (ac p1 (ac p1 (ac p0 rfl))))))))))))))))) rfl (hren _ _ _) (hrenO _ _)⟩
        · refine ⟨(i + 1, k), ⟨hia, hk⟩, by simp only; omega, step_of (L' := playL bs l (itemsAll bs l) (actR acts) (k : Nat) (i + 1 : Nat)) (ob' := [.box (sbox bs l (itemsAll bs l) (k : Nat))]) (play_t0 bs l (itemsAll bs l) (actR acts) i k 0 n)
            (ac p5 (ac (ps _) (ac rfl (ac rfl (ac rfl (ac (decide_eq_true (by omega)) (ac (decide_eq_true (by omega)) (ac rfl (ac rfl (ac p1 (ac p1 (ac p0 rfl)))))))))))) rfl (hren _ _ _) (hrenO _ _)⟩
      · have q0 : (!(d == 0)) = true := nbeq hd0
        by_cases hd1 : d = 1
        · subst hd1
          by_cases hn0 : n < 0
          · exact ⟨(i + 1, k), ⟨hia, hk⟩, by simp only; omega, step_of (L' := playL bs l (itemsAll bs l) (actR acts) (k : Nat) (i + 1 : Nat)) (ob' := [.box (sbox bs l (itemsAll bs l) (k : Nat))]) (play_g_lo bs l (itemsAll bs l) (actR acts) i k 1 n)
              (ac p5 (ac (ps _) (ac rfl (ac rfl (ac rfl (ac rfl (ac (nd (by omega)) (ac (decide_eq_true hn0) (ac rfl (ac rfl (ac q0 (ac p1 (ac p1 (ac p0 rfl)))))))))))))) rfl (hren _ _ _) (hrenO _ _)⟩
          · by_cases hnl : n > (itemsAll bs l).length
            · exact ⟨(i + 1, k), ⟨hia, hk⟩, by simp only; omega, step_of (L' := playL bs l (itemsAll bs l) (actR acts) (k : Nat) (i + 1 : Nat)) (ob' := [.box (sbox bs l (itemsAll bs l) (k : Nat))]) (play_g_hi bs l (itemsAll bs l) (actR acts) i k 1 n)
                (ac p5 (ac (ps _) (ac rfl (ac rfl (ac rfl (ac rfl (ac (nd (by omega)) (ac (decide_eq_true (by omega)) (ac (decide_eq_true hnl) (ac (nd hn0) (ac rfl (ac rfl (ac q0 (ac p1 (ac p1 (ac p0 rfl)))))))))))))))) rfl (hren _ _ _) (hrenO _ _)⟩
            · obtain ⟨j, rfl⟩ : ∃ j : Nat, n = j := ⟨n.toNat, by omega⟩
              exact ⟨(i + 1, j), ⟨hia, by simp only; omega⟩, by simp only; omega, step_of (L' := playL bs l (itemsAll bs l) (actR acts) (j : Nat) (i + 1 : Nat)) (ob' := [.box (sbox bs l (itemsAll bs l) (j : Nat))]) (play_g_ok bs l (itemsAll bs l) (actR acts) i k 1 j)
                (ac p5 (ac (ps _) (ac rfl (ac rfl (ac rfl (ac (decide_eq_true (by omega)) (ac rfl (ac (nd (by omega)) (ac rfl (ac rfl (ac rfl (ac q0 (ac p1 (ac p1 (ac p0 rfl))))))))))))))) rfl (hren _ _ _) (hrenO _ _)⟩
        · have q1 : (!(d == 1)) = true := nbeq hd1
          by_cases hd2 : d = 2
          · subst hd2
            by_cases hlo : n < 0 - (k : Int)
            · exact ⟨(i + 1, k), ⟨hia, hk⟩, by simp only; omega, step_of (L' := playL bs l (itemsAll bs l) (actR acts) (k : Nat) (i + 1 : Nat)) (ob' := [.box (sbox bs l (itemsAll bs l) (k : Nat))]) (play_l_lo bs l (itemsAll bs l) (actR acts) i k 2 n)
                (ac p5 (ac (ps _) (ac rfl (ac rfl (ac (by rw [nk]; exact decide_eq_true hlo) (ac rfl (ac (by rw [nk]; exact nd (by omega)) (ac rfl (ac q1 (ac q0 (ac p1 (ac p1 (ac p0 rfl))))))))))))) rfl (hren _ _ _) (hrenO _ _)⟩
            · have y1 : decide (n ≥ IntKind.i64.wrap (0 - (k : Int))) = true := by rw [nk]; exact decide_eq_true (by omega)
              have y2 : (!decide (n < IntKind.i64.wrap (0 - (k : Int)))) = true := by rw [nk]; exact nd hlo
              by_cases hhi : n < ((itemsAll bs l).length : Int) - k
              · obtain ⟨j, hj⟩ : ∃ j : Nat, (k : Int) + n = j := ⟨((k : Int) + n).toNat, by omega⟩
                obtain ⟨ty, ix, co, tk, hq⟩ := item_row bs l (k := j) (by omega)
                have pq : (true && dec ((itemsAll bs l)[j]? = some [I ty, I ix, I co, .v (.bool false), I tk])) = true := by rw [Bool.true_and]; exact dec_true.2 hq
                have pj : dec (IntKind.i64.wrap ((k : Int) + n) = (j : Nat)) = true := dec_true.2 ((wrap64 (by omega) (by omega)).trans hj)
                exact ⟨(i + 1, k), ⟨hia, hk⟩, by simp only; omega, step_of (L' := playL bs l (itemsAll bs l) (actR acts) (k : Nat) (i + 1 : Nat)) (ob' := [.box (sbox bs l (itemsAll bs l) (k : Nat))]) (play_l_ok bs l (itemsAll bs l) (actR acts) i k 2 n j ty ix co tk)
                  (ac p5 (ac (ps _) (ac rfl (ac (by simp) (ac pq (ac pj (ac (nd (by omega)) (ac lk (ac y2 (ac rfl (ac pq (ac pj (ac (decide_eq_true hhi) (ac lk (ac y1 (ac rfl (ac q1 (ac q0 (ac p1 (ac p1 (ac p0 rfl))))))))))))))))))))) rfl (hren _ _ _) (hrenO _ _)⟩
              · exact ⟨(i + 1, k), ⟨hia, hk⟩, by simp only; omega, step_of (L' := playL bs l (itemsAll bs l) (actR acts) (k : Nat) (i + 1 : Nat)) (ob' := [.box (sbox bs l (itemsAll bs l) (k : Nat))]) (play_l_hi bs l (itemsAll bs l) (actR acts) i k 2 n)
                  (ac p5 (ac (ps _) (ac rfl (ac rfl (ac (decide_eq_true (by omega)) (ac lk (ac y2 (ac rfl (ac (nd hhi) (ac lk (ac y1 (ac rfl (ac q1 (ac q0 (ac p1 (ac p1 (ac p0 rfl))))))))))))))))) rfl (hren _ _ _) (hrenO _ _)⟩
          · have q2 : (!(d == 2)) = true := nbeq hd2
            exact ⟨(i + 1, k), ⟨hia, hk⟩, by simp only; omega, step_of (L' := playL bs l (itemsAll bs l) (actR acts) (k : Nat) (i + 1 : Nat)) (ob' := [.box (sbox bs l (itemsAll bs l) (k : Nat))]) (play_told bs l (itemsAll bs l) (actR acts) i k d n)
              (ac p5 (ac (ps _) (ac rfl (ac (dec_true.2 ⟨k, n, rfl, rfl⟩) (ac q2 (ac q1 (ac q0 (ac p1 (ac p1 (ac p0 rfl)))))))))) rfl (hren _ _ _) (hrenO _ _)⟩
    · right
      exact last_of (obs := []) (play_out bs l (itemsAll bs l) (actR acts) k i) (ac (e0 _) (ac (nd (by omega)) rfl)) rfl
theorem play_all (bs : List Nat) (hb : ∀ b ∈ bs, b < 256) (l : List Tok) (acts : List (Int × Int)) : ARet Tryd.prog 4 [.sl 1 (rowsB bs), .sl 4 (toks l), .sl 2 (actR acts)] [] [] (.v (.bool true)) [] := by
  have htl := toks_len l
  have hbl := rowsB_len bs
  have hal := actR_len acts
  have hG := runOne_ok callG_ok mixed noPu 3000
  have e0 : ∀ {α : Type} (a : α), dec (a = a) = true := fun a => dec_true.2 rfl
  by_cases h1 : bs.length > 2000
  · exact aret_of_run (obs := []) hG (play_g1 bs l (actR acts)) (ac (e0 _) (ac (decide_eq_true (by omega)) rfl))
  by_cases h2 : l.length > 400
  · exact aret_of_run (obs := []) hG (play_g2 bs l (actR acts)) (ac (e0 _) (ac (decide_eq_true (by omega)) (ac (nd (by omega)) rfl)))
  by_cases h3 : acts.length > 200
  · exact aret_of_run (obs := []) hG (play_g3 bs l (actR acts)) (ac (e0 _) (ac (decide_eq_true (by omega)) (ac (nd (by omega)) (ac (nd (by omega)) rfl))))
  by_cases hf : FairF bs 0 l
  · exact play_main ⟨hb, by omega, by omega, hf⟩ acts (by omega)
  · have hcf : CallOk Tryd.prog (callN4 bs l) := by
      refine known1_ok (fun args h => ?_) (known1_ok (fun args h => ?_) (known1_ok (fun args h => ?_) base_ok))
      · subst h; exact ⟨wakes_ok, rfl, rfl⟩
      · subst h; exact ⟨new_bad hb (by omega) (by omega) hf, by simp [pureVals, AV.pure, pure_bytes, pure_toks], rfl⟩
      · subst h
        exact ⟨refFair_ok bs hb (by omega) l (by omega) false (by
          cases h : dec (FairF bs 0 l) with
          | false => rfl
          | true => exact absurd (dec_true.1 h) hf), by simp [pureVals, AV.pure, pure_bytes, pure_toks], rfl⟩
    exact aret_of_run (obs := []) (runOne_ok hcf mixed _ _) (play_no bs l (actR acts)) (ac (e0 _) (ac rfl (ac rfl (ac (e0 _) (ac (e0 _) (ac (nd (by omega)) (ac (nd (by omega)) (ac (nd (by omega)) rfl))))))))
end
end Go.Proofs.YtifnhnkogcgnaaaDoor
