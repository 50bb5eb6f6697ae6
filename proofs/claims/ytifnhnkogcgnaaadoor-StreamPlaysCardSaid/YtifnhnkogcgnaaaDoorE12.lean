/- stream.Right at a stream's items; the comparison of equal tokens. -/
import Derived.Test.YtifnhnkogcgnaaaDoorE11
namespace Go.Proofs.YtifnhnkogcgnaaaDoor
open Go.Am
noncomputable def hd27 : List Code := [sq1 (bodyOf 27), sq1 (sq2 (bodyOf 27)), sq1 (sq2 (sq2 (bodyOf 27)))]
noncomputable def h27 : Code := sq1 (sq1 (sq2 (sq2 (sq2 (bodyOf 27)))))
noncomputable def lp27 : Code := inn (sq2 (sq1 (sq2 (sq2 (sq2 (bodyOf 27))))))
noncomputable def tl27 : Code := sq2 (sq2 (sq2 (sq2 (bodyOf 27))))
def rightL (q : List (List AV)) (i : Int) : Am.Loc := [(3, I q.length), (14, .sl 5 q), (15, I q.length), (16, I i)]
noncomputable def hd16 : List Code := [sq1 (bodyOf 16), sq1 (sq2 (bodyOf 16))]
noncomputable def h16 : Code := sq1 (sq1 (sq2 (sq2 (bodyOf 16))))
noncomputable def lp16 : Code := inn (sq2 (sq1 (sq2 (sq2 (bodyOf 16)))))
noncomputable def tl16 : Code := sq2 (sq2 (sq2 (bodyOf 16)))
def tokensL (a b : List (List AV)) (i : Int) : Am.Loc := [(0, .sl 4 a), (1, .sl 4 b), (5, I i)]
theorem right_f (q : List (List AV)) (z : Nat) (ty c : Int) : outR [3, 14, 15, 16] [] (runCode Tryd.prog 61 base noPu 3000 lp27 (triM (rightL q z)) (triO []) 0 ⟨0, [.b true, .row (itemRow ty z c), .b false, .b false, .b false, .b false, .b false, .b false, .int ((q.length : Int) - 1), .b false, .b false, .int (z + 1 : Nat), .b true], []⟩) = some (.normal, [some (I q.length), some (.sl 5 q), some (I q.length), some (I (z + 1 : Nat))], [], 1, [dec (IntKind.i64.wrap ((z : Int) + 1) = (z + 1 : Nat)), true, !((z : Int) == (q.length : Int) - 1), dec (IntKind.i64.wrap ((q.length : Int) - 1) = (q.length : Int) - 1), !(ty == 0), !decide (ty > 200), !decide (ty < 0), !decide (c < 0), !((z : Int) != z), !((z : Int) != z), true && dec (q[z]? = some (itemRow ty z c)), decide ((z : Int) < q.length)]) := by kernel_rfl
theorem right_t (q : List (List AV)) (z : Nat) (ty c : Int) : outR [3, 14, 15, 16] [] (runCode Tryd.prog 61 base noPu 3000 lp27 (triM (rightL q z)) (triO []) 0 ⟨0, [.b true, .row (itemRow ty z c), .b false, .b false, .b false, .b false, .b false, .b true, .int ((q.length : Int) - 1), .b true, .b false, .int (z + 1 : Nat), .b true], []⟩) = some (.normal, [some (I q.length), some (.sl 5 q), some (I q.length), some (I (z + 1 : Nat))], [], 1, [dec (IntKind.i64.wrap ((z : Int) + 1) = (z + 1 : Nat)), true, ((z : Int) == (q.length : Int) - 1), dec (IntKind.i64.wrap ((q.length : Int) - 1) = (q.length : Int) - 1), (ty == 0), !decide (ty > 200), !decide (ty < 0), !decide (c < 0), !((z : Int) != z), !((z : Int) != z), true && dec (q[z]? = some (itemRow ty z c)), decide ((z : Int) < q.length)]) := by kernel_rfl
theorem right_last (q : List (List AV)) (z : Nat) : lastC Tryd.prog [.tmp 2] 0 (lastR Tryd.prog 61 base noPu 3000 0 tl27 (runCode Tryd.prog 61 base noPu 3000 lp27 (triM (rightL q z)) (triO []) 0 ⟨0, [.b false, .b true], []⟩)) = some (.v (.bool true), [], [!decide ((z : Int) < q.length)]) := by kernel_rfl
theorem right_head (q : List (List AV)) : outR [3, 14, 15, 16] [] (runL Tryd.prog 61 base noPu 3000 (hd27 ++ [h27]) (argT 0 [.sl 5 q] .e) .e 0 ⟨0, [.b false, .b false, .b true], []⟩) = some (.normal, [some (I q.length), some (.sl 5 q), some (I q.length), some (I 0)], [], 0, [!decide ((q.length : Int) > 601), !((q.length : Int) == 0)]) := by kernel_rfl
theorem tokens_step (a : List (List AV)) (z : Nat) (ty ch fr to : Int) : outR [0, 1, 5] [] (runCode Tryd.prog 26 base noPu 3000 lp16 (triM (tokensL a a z)) (triO []) 0 ⟨0, [.b true, .row [I ty, I ch, I fr, I to], .row [I ty, I ch, I fr, I to], .b false, .int (z + 1 : Nat), .b true], []⟩) = some (.normal, [some (.sl 4 a), some (.sl 4 a), some (I (z + 1 : Nat))], [], 0, [dec (IntKind.i64.wrap ((z : Int) + 1) = (z + 1 : Nat)), !(!(decide (ty = ty) && (decide (ch = ch) && (decide (fr = fr) && (decide (to = to) && true))))), true && dec (a[z]? = some [I ty, I ch, I fr, I to]), true && dec (a[z]? = some [I ty, I ch, I fr, I to]), decide ((z : Int) < a.length)]) := by kernel_rfl
theorem tokens_last (a : List (List AV)) (z : Nat) : lastC Tryd.prog [.tmp 4] 0 (lastR Tryd.prog 26 base noPu 3000 0 tl16 (runCode Tryd.prog 26 base noPu 3000 lp16 (triM (tokensL a a z)) (triO []) 0 ⟨0, [.b false, .b true], []⟩)) = some (.v (.bool true), [], [!decide ((z : Int) < a.length)]) := by kernel_rfl
theorem tokens_head (a : List (List AV)) : outR [0, 1, 5] [] (runL Tryd.prog 26 base noPu 3000 (hd16 ++ [h16]) (argT 0 [.sl 4 a, .sl 4 a] .e) .e 0 ⟨0, [.b false, .b true], []⟩) = some (.normal, [some (.sl 4 a), some (.sl 4 a), some (I 0)], [], 0, [!((a.length : Int) != a.length)]) := by kernel_rfl

theorem nbeq {a b : Int} (h : a ≠ b) : (!(a == b)) = true := by simp [h]
theorem ybeq {a b : Int} (h : a = b) : (a == b) = true := by simp [h]
theorem right_ok (q : List (List AV)) (hp : pureRows q = true) (h1 : 1 ≤ q.length) (h2 : q.length ≤ 601) (hq : ∀ k, k < q.length → ∃ ty c : Int, q[k]? = some (itemRow ty k c) ∧ 0 ≤ c ∧ 0 ≤ ty ∧ ty ≤ 200 ∧ (ty = 0 ↔ k + 1 = q.length)) : ARet Tryd.prog 27 [.sl 5 q] [] [] (.v (.bool true)) [] := by
  have hren : ∀ f i, renL f (rightL q i) = [some (I q.length), some (.sl 5 q), some (I q.length), some (I i)] := fun f i => by simp [renL, rightL, AV.ren, renRows_pure _ _ hp]
  refine aret_loop2 base_ok mixed (pu := noPu) (lf := 3000) (fn := Tryd.f27) (hs := hd27) (H := h27) (id := 0) (c := lp27) (B := tl27) rfl rfl rfl (Nat.le_of_ble_eq_true rfl) rfl rfl
    (ι := Nat) (fun j => rightL q j) (fun _ => []) (fun j => j ≤ q.length) (fun j => q.length - j) 0 (Nat.zero_le _) ?_ ?_
  · exact head_of (L' := rightL q (0 : Nat)) (right_head q) (ac (nd (by omega)) (ac (nbeq (by omega)) rfl)) rfl (hren _ _) rfl
  · intro j hj
    by_cases hjn : j < q.length
    · left
      refine ⟨j + 1, hjn, by omega, ?_⟩
      obtain ⟨ty, c, g1, g2, g3, g4, g5⟩ := hq j hjn
      have p1 : decide ((j : Int) < q.length) = true := decide_eq_true (by omega)
      have p2 : (true && dec (q[j]? = some (itemRow ty j c))) = true := by rw [Bool.true_and]; exact dec_true.2 g1
      have p3 : (!((j : Int) != j)) = true := by simp
      have p4 : dec (IntKind.i64.wrap ((q.length : Int) - 1) = (q.length : Int) - 1) = true := dec_true.2 (wrap64 (by omega) (by omega))
      have p5 : dec (IntKind.i64.wrap ((j : Int) + 1) = (j + 1 : Nat)) = true := dec_true.2 ((wrap64 (by omega) (by omega)).trans (by omega))
      by_cases ht : ty = 0
      · have hl := g5.1 ht
        exact step_of (L' := rightL q (j + 1 : Nat)) (ob' := []) (right_t q j ty c) (ac p5 (ac rfl (ac (by simp; omega) (ac p4 (ac (by simp [ht]) (ac (nd (by omega)) (ac (nd (by omega)) (ac (nd (by omega)) (ac p3 (ac p3 (ac p2 (ac p1 rfl)))))))))))) rfl (hren _ _) rfl
      · have hl : ¬ j + 1 = q.length := fun e => ht (g5.2 e)
        exact step_of (L' := rightL q (j + 1 : Nat)) (ob' := []) (right_f q j ty c) (ac p5 (ac rfl (ac (by simp; omega) (ac p4 (ac (by simp [ht]) (ac (nd (by omega)) (ac (nd (by omega)) (ac (nd (by omega)) (ac p3 (ac p3 (ac p2 (ac p1 rfl)))))))))))) rfl (hren _ _) rfl
    · right
      exact last_of (obs := []) (right_last q j) (ac (nd (by omega)) rfl) rfl
theorem tokens_ok (l : List Tok) (hn : l.length ≤ 100000) : ARet Tryd.prog 16 [.sl 4 (toks l), .sl 4 (toks l)] [] [] (.v (.bool true)) [] := by
  have htl := toks_len l
  have hren : ∀ f i, renL f (tokensL (toks l) (toks l) i) = [some (.sl 4 (toks l)), some (.sl 4 (toks l)), some (I i)] := fun f i => by simp [renL, tokensL, AV.ren, renRows_pure _ _ (pure_toks l)]
  refine aret_loop2 base_ok mixed (pu := noPu) (lf := 3000) (fn := Tryd.f16) (hs := hd16) (H := h16) (id := 0) (c := lp16) (B := tl16) rfl rfl rfl (Nat.le_of_ble_eq_true rfl) rfl rfl
    (ι := Nat) (fun j => tokensL (toks l) (toks l) j) (fun _ => []) (fun j => j ≤ l.length) (fun j => l.length - j) 0 (Nat.zero_le _) ?_ ?_
  · exact head_of (L' := tokensL (toks l) (toks l) (0 : Nat)) (tokens_head (toks l)) (ac (by simp) rfl) rfl (hren _ _) rfl
  · intro j hj
    by_cases hjn : j < l.length
    · left
      refine ⟨j + 1, hjn, by omega, ?_⟩
      have ht : l[j]? = some l[j] := List.getElem?_eq_getElem hjn
      have p2 : (true && dec ((toks l)[j]? = some [I l[j].ty, I l[j].ch, I l[j].fr, I l[j].to])) = true := by rw [Bool.true_and]; exact dec_true.2 (tokRow_at ht)
      exact step_of (L' := tokensL (toks l) (toks l) (j + 1 : Nat)) (ob' := []) (tokens_step (toks l) j l[j].ty l[j].ch l[j].fr l[j].to) (ac (dec_true.2 ((wrap64 (by omega) (by omega)).trans (by omega))) (ac (by simp) (ac p2 (ac p2 (ac (decide_eq_true (by omega)) rfl))))) rfl (hren _ _) rfl
    · right
      exact last_of (obs := []) (tokens_last (toks l) j) (ac (nd (by omega)) rfl) rfl
end Go.Proofs.YtifnhnkogcgnaaaDoor
