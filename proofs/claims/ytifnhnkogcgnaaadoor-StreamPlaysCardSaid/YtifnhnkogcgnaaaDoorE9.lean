/- units.Span, units.Ends, and a stream's Span and Text of an item. -/
import Derived.Test.YtifnhnkogcgnaaaDoorE8
namespace Go.Proofs.YtifnhnkogcgnaaaDoor
open Go.Am
noncomputable def spanV (m n : Nat) : AV := .v (.complex .f64 (fb m) (fb n))
abbrev iv (n : Nat) : Gi := .val (.int .i64 n)
abbrev fv (b : Nat) : Gi := .val (.float .f64 b)
theorem span_run (a b m n : Nat) : outC (base 36 [I m, I n] .e 0 ⟨0, [iv m, iv m, fv a, iv n, iv n, fv b, .b true], []⟩) = some (.v (.complex .f64 a b), [], [dec (ConvP Tryd.prog 3 74 (.int .i64 n) (.float .f64 b)),
  dec (CallP Tryd.prog .min #[3, 3] 3 #[false, true] [.int .i64 n, .int .i64 1099511627776] (.int .i64 n)), dec (CallP Tryd.prog .max #[3, 3] 3 #[false, true] [.int .i64 n, .int .i64 0] (.int .i64 n)),
  dec (ConvP Tryd.prog 3 74 (.int .i64 m) (.float .f64 a)),
  dec (CallP Tryd.prog .min #[3, 3] 3 #[false, true] [.int .i64 m, .int .i64 1099511627776] (.int .i64 m)), dec (CallP Tryd.prog .max #[3, 3] 3 #[false, true] [.int .i64 m, .int .i64 0] (.int .i64 m))]) := by kernel_rfl
theorem span_ok {m n : Nat} (hm : m ≤ 2000) (hn : n ≤ 2000) : ARet Tryd.prog 36 [I m, I n] [] [] (spanV m n) [] :=
  aret_of_run (obs := []) base_ok (span_run (fb m) (fb n) m n) (ac (dec_true.2 (fl hn).cf) (ac (dec_true.2 (minP (by omega))) (ac (dec_true.2 (maxP (by omega))) (ac (dec_true.2 (fl hm).cf) (ac (dec_true.2 (minP (by omega))) (ac (dec_true.2 (maxP (by omega))) rfl))))))
theorem realP {P : Program} {a b : Nat} : CallP P .real #[35] 74 #[false] [.complex .f64 a b] (.float .f64 a) := rfl
theorem imagP {P : Program} {a b : Nat} : CallP P .imag #[35] 74 #[false] [.complex .f64 a b] (.float .f64 b) := rfl
theorem ends_run (a b m n : Nat) : outC (base 14 [.v (.complex .f64 a b)] .e 0 ⟨0, [fv a, .b false, fv a, fv a, iv m, fv b, .b false, fv b, fv b, iv n, .b true], []⟩) = some (.tu [I m, I n], [], [dec (ConvP Tryd.prog 74 3 (.float .f64 b) (.int .i64 n)),
  dec (CallP Tryd.prog .min #[74, 74] 74 #[false, true] [.float .f64 b, .float .f64 4787326403894837248] (.float .f64 b)), dec (CallP Tryd.prog .max #[74, 74] 74 #[false, true] [.float .f64 b, .float .f64 0] (.float .f64 b)), !(FloatKind.f64.format.order b b != some Ordering.eq), dec (CallP Tryd.prog .imag #[35] 74 #[false] [.complex .f64 a b] (.float .f64 b)),
  dec (ConvP Tryd.prog 74 3 (.float .f64 a) (.int .i64 m)),
  dec (CallP Tryd.prog .min #[74, 74] 74 #[false, true] [.float .f64 a, .float .f64 4787326403894837248] (.float .f64 a)), dec (CallP Tryd.prog .max #[74, 74] 74 #[false, true] [.float .f64 a, .float .f64 0] (.float .f64 a)), !(FloatKind.f64.format.order a a != some Ordering.eq), dec (CallP Tryd.prog .real #[35] 74 #[false] [.complex .f64 a b] (.float .f64 a))]) := by kernel_rfl
theorem ends_ok {m n : Nat} (hm : m ≤ 2000) (hn : n ≤ 2000) : ARet Tryd.prog 14 [spanV m n] [] [] (.tu [I m, I n]) [] :=
  aret_of_run (obs := []) base_ok (ends_run (fb m) (fb n) m n) (ac (dec_true.2 (fl hn).cb) (ac (dec_true.2 (fl hn).mn) (ac (dec_true.2 (fl hn).mx) (ac (fl hn).nn (ac (dec_true.2 imagP)
    (ac (dec_true.2 (fl hm).cb) (ac (dec_true.2 (fl hm).mn) (ac (dec_true.2 (fl hm).mx) (ac (fl hm).nn (ac (dec_true.2 realP) rfl))))))))))
def SpanArg (args : List AV) : Prop := ∃ m n : Nat, m ≤ 2000 ∧ n ≤ 2000 ∧ args = [I m, I n]
noncomputable def spanRes : List AV → AV
  | [.v (.int _ m), .v (.int _ n)] => spanV m.toNat n.toNat
  | _ => .any
theorem span_known (args : List AV) (h : SpanArg args) : ARet Tryd.prog 36 args [] [] (spanRes args) [] ∧ pureVals args = true ∧ (spanRes args).pure = true := by
  obtain ⟨m, n, hm, hn, rfl⟩ := h
  exact ⟨span_ok hm hn, rfl, rfl⟩
noncomputable def callR13 : CallF := known1 36 SpanArg spanRes base
theorem callR13_ok : CallOk Tryd.prog callR13 := known1_ok span_known base_ok
noncomputable def run13 : CallF := runOne Tryd.prog noPu 3000 callR13
/-- a stream in memory; where it stands is not told -/
def strm4 (bs : List Nat) (l : List Tok) (q : List (List AV)) : List AV := [.sl 1 (rowsB bs), .sl 4 (toks l), .sl 5 q, .sl 1 (rowsI (seenF 0 l))]
def strm (bs : List Nat) (l : List Tok) (q : List (List AV)) : AV := .pf (strm4 bs l q)
theorem cells_pre {m : Mem} {γ : Gam} : ∀ (cs ds : List AV) (b off : Nat), RepCells m γ (cs ++ ds) b off → RepCells m γ cs b off
  | [], _, _, _, _ => by simp only [RepCells]
  | c :: cs, ds, b, off, h => by
    rw [List.cons_append] at h
    simp only [RepCells] at h ⊢
    exact ⟨h.1, cells_pre cs ds b (off + 1) h.2⟩
theorem new_weak {bs : List Nat} {l : List Tok} (m : Mem) (γ : Gam) (x : Value) (h : Rep m γ (.tu [streamAV bs l, I 0]) x) : Rep m γ (.tu [strm bs l (itemsOf bs l ((seenF 0 l).length + 1)), I 0]) x := by
  simp only [Rep, RepVals] at h ⊢
  obtain ⟨xs, e, y, r, e1, h1, h2⟩ := h
  refine ⟨xs, e, y, r, e1, ?_, h2⟩
  unfold streamAV at h1
  unfold strm
  simp only [Rep] at h1 ⊢
  obtain ⟨b, off, e3, h3⟩ := h1
  exact ⟨b, off, e3, cells_pre (strm4 bs l _) [I 0] b off h3⟩

theorem span13a (bs : List Nat) (l : List Tok) (q : List (List AV)) (z i : Nat) (ty ch fr to : Int) : outC (run13 13 [strm bs l q, I z] .e 0 ⟨0, [.b false, .b false, .b false, .b false, .row [I i], .row [I ty, I ch, I fr, I to], .b true], []⟩) = some (.tu [spanV fr.toNat to.toNat, I 0], [],
  [dec (SpanArg [I fr, I to]), true && dec ((toks l)[i]? = some [I ty, I ch, I fr, I to]), true && dec ((rowsI (seenF 0 l))[z]? = some [I i]), !((z : Int) == (rowsI (seenF 0 l)).length), !decide ((z : Int) ≥ q.length), true, true]) := by kernel_rfl
theorem span13b (bs : List Nat) (l : List Tok) (q : List (List AV)) (z : Nat) : outC (run13 13 [strm bs l q, I z] .e 0 ⟨0, [.b false, .b false, .b false, .b true, .b true], []⟩) = some (.tu [spanV ((rowsB bs).length : Int).toNat ((rowsB bs).length : Int).toNat, I 0], [],
  [dec (SpanArg [I (rowsB bs).length, I (rowsB bs).length]), (z : Int) == (rowsI (seenF 0 l)).length, !decide ((z : Int) ≥ q.length), true, true]) := by kernel_rfl
/-- the tokens of a fair input that is not too long -/
structure OkIn (bs : List Nat) (l : List Tok) : Prop where
  hb : ∀ b ∈ bs, b < 256
  hl : bs.length ≤ 2000
  hn : l.length ≤ 400
  hf : FairF bs 0 l
theorem fairF_tok {bs : List Nat} : ∀ {l : List Tok} {e : Int}, FairF bs e l → ∀ t ∈ l, e ≤ t.fr ∧ 0 ≤ t.fr ∧ t.fr < t.to ∧ t.to ≤ bs.length ∧ 1 ≤ t.ty ∧ t.ty ≤ 200
  | [], _, _, t, h => by cases h
  | u :: us, e, h, t, ht => by
    have hu := h.1
    have h1 := okAt_le hu.2.2.2.2.2.2.1
    have h2 := okAt_le hu.2.2.2.2.2.2.2
    have h3 := hu.2.2.2.2.2.1
    have h4 := hu.2.2.2.2.1
    have h5 := hu.1
    have h6 := hu.2.1
    rcases List.mem_cons.1 ht with rfl | ht
    · exact ⟨by omega, by omega, by omega, by omega, by omega, by omega⟩
    · obtain ⟨g1, g2⟩ := fairF_tok h.2 t ht
      exact ⟨by omega, g2⟩
theorem fairF_lt {bs : List Nat} : ∀ {l : List Tok} {e : Int}, FairF bs e l → ∀ (i j : Nat) (t u : Tok), i < j → l[i]? = some t → l[j]? = some u → t.to ≤ u.fr
  | [], _, _, i, j, t, u, _, h, _ => by simp at h
  | v :: vs, e, h, i, j, t, u, hij, ht, hu => by
    obtain ⟨j, rfl⟩ : ∃ k, j = k + 1 := ⟨j - 1, by omega⟩
    have hu' : vs[j]? = some u := by simpa using hu
    cases i with
    | zero =>
      have : v = t := by simpa using ht
      subst this
      exact (fairF_tok h.2 u (List.mem_of_getElem? hu')).1
    | succ i => exact fairF_lt h.2 i j t u (by omega) (by simpa using ht) hu'
/-- where an item begins and ends -/
def endsAt (bs : List Nat) (l : List Tok) (k : Nat) : Nat × Nat := match (seenF 0 l)[k]? with
  | some i => match l[i]? with
    | some t => (t.fr.toNat, t.to.toNat)
    | none => (0, 0)
  | none => (bs.length, bs.length)
theorem tokRow_at {l : List Tok} {i : Nat} {t : Tok} (h : l[i]? = some t) : (toks l)[i]? = some [I t.ty, I t.ch, I t.fr, I t.to] := by
  unfold toks
  rw [List.getElem?_map, h]
  rfl
theorem rowI_at {S : List Nat} {k i : Nat} (h : S[k]? = some i) : (rowsI S)[k]? = some [I i] := by
  unfold rowsI
  rw [List.getElem?_map, h]
  rfl
theorem rowsI_len (S : List Nat) : (rowsI S).length = S.length := by simp [rowsI]
theorem rowsB_len (bs : List Nat) : (rowsB bs).length = bs.length := by simp [rowsB]
theorem ends_le {bs : List Nat} {l : List Tok} (g : OkIn bs l) (k : Nat) : (endsAt bs l k).1 ≤ (endsAt bs l k).2 ∧ (endsAt bs l k).2 ≤ bs.length := by
  unfold endsAt
  split
  · rename_i i hi
    obtain ⟨_, t, ht, _⟩ := seenF_get l 0 k i hi
    rw [Nat.sub_zero] at ht
    rw [ht]
    obtain ⟨_, h1, h2, h3, _⟩ := fairF_tok g.hf t (List.mem_of_getElem? ht)
    simp only
    omega
  · simp
theorem span13 {bs : List Nat} {l : List Tok} (g : OkIn bs l) {q : List (List AV)} (hq : q.length = (seenF 0 l).length + 1) {k : Nat} (hk : k ≤ (seenF 0 l).length) : ARet Tryd.prog 13 [strm bs l q, I k] [] [] (.tu [spanV (endsAt bs l k).1 (endsAt bs l k).2, I 0]) [] := by
  have hgl := g.hl
  have hrl := rowsI_len (seenF 0 l)
  have hc : CallOk Tryd.prog run13 := runOne_ok callR13_ok mixed _ _
  by_cases h : k < (seenF 0 l).length
  · obtain ⟨i, hi⟩ : ∃ i, (seenF 0 l)[k]? = some i := ⟨_, List.getElem?_eq_getElem h⟩
    obtain ⟨_, t, ht, _⟩ := seenF_get l 0 k i hi
    rw [Nat.sub_zero] at ht
    have e : endsAt bs l k = (t.fr.toNat, t.to.toNat) := by simp only [endsAt, hi, ht]
    rw [e]
    obtain ⟨_, h1, h2, h3, _⟩ := fairF_tok g.hf t (List.mem_of_getElem? ht)
    refine aret_of_run (obs := []) hc (span13a bs l q k i t.ty t.ch t.fr t.to) (ac (dec_true.2 ⟨t.fr.toNat, t.to.toNat, by omega, by omega, ?_⟩) (ac (by rw [Bool.true_and]; exact dec_true.2 (tokRow_at ht)) (ac (by rw [Bool.true_and]; exact dec_true.2 (rowI_at hi)) (ac ?_ (ac (nd (by omega)) (ac rfl (ac rfl rfl)))))))
    · rw [Int.toNat_of_nonneg h1, Int.toNat_of_nonneg (by omega)]
    · simp; omega
  · obtain rfl : k = (seenF 0 l).length := by omega
    have e : endsAt bs l (seenF 0 l).length = (((rowsB bs).length : Int).toNat, ((rowsB bs).length : Int).toNat) := by simp [endsAt, rowsB_len]
    rw [e]
    exact aret_of_run (obs := []) hc (span13b bs l q (seenF 0 l).length) (ac (dec_true.2 ⟨bs.length, bs.length, by omega, by omega, by rw [rowsB_len]⟩) (ac (by simp [hrl]) (ac (nd (by omega)) (ac rfl (ac rfl rfl)))))

/-- a piece of the input, as a string's bytes -/
def textOf (bs : List Nat) (e : Nat × Nat) : List Int := ((bs.drop e.1).take (e.2 - e.1)).map fun (b : Nat) => (b : Int)
theorem strOf_bytes (cs : List Nat) : StrOf (rowsB cs) (cs.map fun (b : Nat) => (b : Int)) := by
  refine ⟨?_, cs.map (fun (b : Nat) => Value.int .u8 (b : Int)), ?_, ?_⟩
  · unfold rowsOne rowsB
    rw [List.all_eq_true]
    intro r hr
    obtain ⟨b, _, rfl⟩ := List.mem_map.1 hr
    rfl
  · induction cs with
    | nil => rfl
    | cons c cs ih =>
      have : (rowsB (c :: cs)).flatten = AV.v (.int .u8 (c : Int)) :: (rowsB cs).flatten := rfl
      rw [this]
      simp only [plains, ih]
      rfl
  · induction cs with
    | nil => rfl
    | cons c cs ih =>
      simp only [List.map_cons, bytesOf]
      rw [ih]
theorem strOf_piece (bs : List Nat) (e : Nat × Nat) : StrOf (((rowsB bs).drop e.1).take (e.2 - e.1)) (textOf bs e) := by
  have : ((rowsB bs).drop e.1).take (e.2 - e.1) = rowsB ((bs.drop e.1).take (e.2 - e.1)) := by simp [rowsB, List.map_drop, List.map_take]
  rw [this]
  exact strOf_bytes _
noncomputable def span13Res (bs : List Nat) (l : List Tok) : List AV → AV
  | [_, .v (.int _ k)] => .tu [spanV (endsAt bs l k.toNat).1 (endsAt bs l k.toNat).2, I 0]
  | _ => .any
def KArg (S : AV) (n : Nat) (args : List AV) : Prop := ∃ k : Nat, k ≤ n ∧ args = [S, I k]
noncomputable def run15 (bs : List Nat) (l : List Tok) (q : List (List AV)) : CallF := runOne Tryd.prog noPu 3000 (known1 13 (KArg (strm bs l q) (seenF 0 l).length) (span13Res bs l) base)
end Go.Proofs.YtifnhnkogcgnaaaDoor
