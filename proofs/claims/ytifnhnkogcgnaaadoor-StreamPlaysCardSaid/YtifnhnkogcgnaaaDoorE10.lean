/- a stream's Text, Items, Seen and Hidden. -/
import Derived.Test.YtifnhnkogcgnaaaDoorE9
namespace Go.Proofs.YtifnhnkogcgnaaaDoor
open Go.Am
theorem text15 (bs : List Nat) (l : List Tok) (q : List (List AV)) (z : Nat) (zs : List Int) : outC (run15 bs l q 15 [strm bs l q, I z] .e 0 ⟨0, [.b false, fv (fb (endsAt bs l z).1), iv (endsAt bs l z).1, fv (fb (endsAt bs l z).2), iv (endsAt bs l z).2, .str zs, .b true], []⟩) = some (.tu [.v (.string (mkString zs)), I 0], [],
  [true && dec (StrOf (((rowsB bs).drop (endsAt bs l z).1).take ((endsAt bs l z).2 - (endsAt bs l z).1)) zs), Nat.ble (endsAt bs l z).1 (endsAt bs l z).2 && Nat.ble (endsAt bs l z).2 (rowsB bs).length && true,
   dec (ConvP Tryd.prog 74 3 (.float .f64 (fb (endsAt bs l z).2)) (.int .i64 (endsAt bs l z).2)), dec (CallP Tryd.prog .imag #[35] 74 #[false] [.complex .f64 (fb (endsAt bs l (z : Int).toNat).1) (fb (endsAt bs l (z : Int).toNat).2)] (.float .f64 (fb (endsAt bs l z).2))),
   dec (ConvP Tryd.prog 74 3 (.float .f64 (fb (endsAt bs l z).1)) (.int .i64 (endsAt bs l z).1)), dec (CallP Tryd.prog .real #[35] 74 #[false] [.complex .f64 (fb (endsAt bs l (z : Int).toNat).1) (fb (endsAt bs l (z : Int).toNat).2)] (.float .f64 (fb (endsAt bs l z).1))),
   true, dec (KArg (strm bs l q) (seenF 0 l).length [strm bs l q, I z])]) := by kernel_rfl
variable {bs : List Nat} {l : List Tok} {q : List (List AV)}
theorem pure_strm (hq : pureRows q = true) : (strm bs l q).pure = true := by simp [strm, strm4, AV.pure, pureVals, pure_bytes, pure_toks, pure_rowsI, hq]
theorem span13_known (g : OkIn bs l) (hq : q.length = (seenF 0 l).length + 1) (hp : pureRows q = true) (args : List AV) (h : KArg (strm bs l q) (seenF 0 l).length args) : ARet Tryd.prog 13 args [] [] (span13Res bs l args) [] ∧ pureVals args = true ∧ (span13Res bs l args).pure = true := by
  obtain ⟨k, hk, rfl⟩ := h
  exact ⟨span13 g hq hk, by simp [pureVals, pure_strm hp, AV.pure], rfl⟩
theorem text_ok (g : OkIn bs l) (hq : q.length = (seenF 0 l).length + 1) (hp : pureRows q = true) {k : Nat} (hk : k ≤ (seenF 0 l).length) : ARet Tryd.prog 15 [strm bs l q, I k] [] [] (.tu [.v (.string (mkString (textOf bs (endsAt bs l k)))), I 0]) [] := by
  have hgl := g.hl
  have he := ends_le g k
  have f1 := fl (n := (endsAt bs l k).1) (by omega)
  have f2 := fl (n := (endsAt bs l k).2) (by omega)
  exact aret_of_run (obs := []) (runOne_ok (known1_ok (span13_known g hq hp) base_ok) mixed _ _) (text15 bs l q k (textOf bs (endsAt bs l k))) (ac (by rw [Bool.true_and]; exact dec_true.2 (strOf_piece bs _)) (ac (andt (andt (nle he.1) (nle (by rw [rowsB_len]; exact he.2))) rfl)
    (ac (dec_true.2 f2.cb) (ac (dec_true.2 imagP) (ac (dec_true.2 f1.cb) (ac (dec_true.2 realP) (ac rfl (ac (dec_true.2 ⟨k, hk, rfl⟩) rfl))))))))
noncomputable def run9 : CallF := runOne Tryd.prog noPu 3000 (known1 35 (CloneArg 5) theArg base)
theorem items9 (bs : List Nat) (l : List Tok) (q : List (List AV)) : outC (run9 9 [strm bs l q] .e 0 ⟨0, [.b false, .b true], []⟩) = some (.sl 5 q, [], [dec (CloneArg 5 [.sl 5 q]), true]) := by kernel_rfl
theorem items_ok (hq : Rows1 q) : ARet Tryd.prog 9 [strm bs l q] [] [] (.sl 5 q) [] :=
  aret_of_run (obs := []) (runOne_ok (known1_ok (clone_known clone35) base_ok) mixed _ _) (items9 bs l q) (ac (dec_true.2 ⟨_, rfl, hq⟩) (ac rfl rfl))
noncomputable def run12 : CallF := runOne Tryd.prog noPu 3000 (known1 30 (CloneArg 4) theArg base)
end Go.Proofs.YtifnhnkogcgnaaaDoor
