/- The law StreamBack returns true, whatever bytes and tokens. -/
import Derived.Test.YtifnhnkogcgnaaaDoorE12
namespace Go.Proofs.YtifnhnkogcgnaaaDoor
open Go.Am
theorem wakes_run : runFn Tryd.prog (fun _ => false) 3000 60 7 [] .e 0 ⟨0, [], []⟩ = .ret (.v (.bool true)) .e 0 ⟨0, [], []⟩ := by kernel_rfl
theorem wakes_ok : ARet Tryd.prog 7 [] [] [] (.v (.bool true)) [] := ret_of_run base_ok wakes_run rfl
noncomputable def hidRes (l : List Tok) : List AV → AV
  | [_, .v (.int _ k)] => .sl 4 (((toks l).drop (hidAt l k.toNat).1).take ((hidAt l k.toNat).2 - (hidAt l k.toNat).1))
  | _ => .any
noncomputable def textRes (bs : List Nat) (l : List Tok) : List AV → AV
  | [_, .v (.int _ k)] => .tu [.v (.string (mkString (textOf bs (endsAt bs l k.toNat)))), I 0]
  | _ => .any
def tv' (_ : List AV) : AV := .v (.bool true)
noncomputable def callR3 (bs : List Nat) (l : List Tok) (q : List (List AV)) (r8 : AV) : CallF :=
  known1 7 (fun args => args = []) tv' (known1 8 (fun args => args = [.sl 1 (rowsB bs), .sl 4 (toks l)]) (fun _ => r8) (known1 9 (fun args => args = [strm bs l q]) (fun _ => .sl 5 q) (known1 10 (fun args => args = [strm bs l q]) (fun _ => .sl 4 (seenR l (seenF 0 l).length))
  (known1 11 (fun args => args = [.sl 5 q]) tv' (known1 12 (KArg (strm bs l q) (seenF 0 l).length) (hidRes l) (known1 13 (KArg (strm bs l q) (seenF 0 l).length) (span13Res bs l) (known1 15 (KArg (strm bs l q) (seenF 0 l).length) (textRes bs l)
  (known1 16 (fun args => args = [.sl 4 (toks l), .sl 4 (toks l)]) tv' base))))))))
noncomputable def callG : CallF := known1 7 (fun args => args = []) tv' base
noncomputable def callN (bs : List Nat) (l : List Tok) : CallF := known1 7 (fun args => args = []) tv' (known1 8 (fun args => args = [.sl 1 (rowsB bs), .sl 4 (toks l)]) (fun _ => .tu [.v (.pointer none), I 2]) base)
noncomputable def b3 : Nat → Code
  | 0 => bodyOf 3
  | k + 1 => sq2 (b3 k)
noncomputable def hd3 : List Code := [sq1 (b3 0), sq1 (b3 1), sq1 (b3 2), sq1 (b3 3), sq1 (b3 4), sq1 (b3 5), sq1 (b3 6), sq1 (b3 7), sq1 (b3 8)]
noncomputable def h3 : Code := sq1 (sq1 (b3 9))
noncomputable def lp3 : Code := inn (sq2 (sq1 (b3 9)))
noncomputable def tl3 : Code := sq2 (b3 9)
noncomputable def backL (bs : List Nat) (l : List Tok) (q : List (List AV)) (s : AV) (e i : Int) : Am.Loc := [(0, .sl 1 (rowsB bs)), (1, .sl 4 (toks l)), (5, strm bs l q), (7, .sl 5 q), (8, .sl 4 (seenR l (seenF 0 l).length)), (9, s), (10, I e), (11, I i)]
def hidRows (l : List Tok) (k : Nat) : List (List AV) := ((toks l).drop (hidAt l k).1).take ((hidAt l k).2 - (hidAt l k).1)
abbrev flb (b : Nat) : Value := .float .f64 b
theorem back_0s (bs : List Nat) (l : List Tok) (q r : List (List AV)) (r8 : AV) (e : Int) (z k a b m n : Nat) (ty ch fr to : Int) (zs : List Int) : outR [0, 1, 5, 7, 8, 9, 10, 11] [2] (runCode Tryd.prog 124 (callR3 bs l q r8) noPu 3000 lp3 (triM (backL bs l q nilS e z)) (triO []) 0 ⟨0, [.b true, fv a, .b false, fv a, fv a, iv m, fv b, .b false, fv b, fv b, iv n, .b false, .b false, .b false, .b false, .str zs, .b false, .b true, .row [I ty, I ch, I fr, I to], .int (z + 1 : Nat), .b true], []⟩) = some (.normal, [some (.sl 1 (rowsB bs)), some (.sl 4 (toks l)), some (strm bs l q), some (.sl 5 q), some (.sl 4 (seenR l (seenF 0 l).length)), some (.sr 2 4 0 ((0 + (hidRows l (z : Int).toNat).length) + 1)), some (I (n : Nat)), some (I (z + 1 : Nat))], [some (.row 43 4 (List.take (0 + (hidRows l (z : Int).toNat).length) (List.take 0 [] ++ (hidRows l (z : Int).toNat)) ++ [[I ty, I ch, I fr, I to]]))], 3, [dec (IntKind.i64.wrap ((z : Int) + 1) = (z + 1 : Nat)), (true && Nat.ble (0 + (hidRows l (z : Int).toNat).length) (List.take 0 [] ++ (hidRows l (z : Int).toNat)).length) && (true && Nat.ble (((0 + (hidRows l (z : Int).toNat).length) + 1) * 32) 140737488355328 && Nat.ble ((0 + (hidRows l (z : Int).toNat).length) + 1) 9223372036854775807), true && dec ((seenR l (seenF 0 l).length)[z]? = some [I ty, I ch, I fr, I to]), decide ((z : Int) < (seenR l (seenF 0 l).length).length), !(!beqL (mkString (textOf bs (endsAt bs l (z : Int).toNat))).data.toList (mkString zs).data.toList), true && dec (StrOf (((rowsB bs).drop m).take (n - m)) zs), Nat.ble m n && Nat.ble n (rowsB bs).length && true, !decide ((n : Int) > (rowsB bs).length), !decide ((n : Int) < m), !decide ((m : Int) < e), true, dec (KArg (strm bs l q) (seenF 0 l).length [strm bs l q, I z]), dec (ConvP Tryd.prog 74 3 (flb b) (.int .i64 (n : Nat))), dec (CallP Tryd.prog .min #[74, 74] 74 #[false, true] [flb b, flb bigF] (flb b)), dec (CallP Tryd.prog .max #[74, 74] 74 #[false, true] [flb b, flb 0] (flb b)), !(FloatKind.f64.format.order b b != some Ordering.eq), dec (CallP Tryd.prog .imag #[35] 74 #[false] [.complex .f64 (fb (endsAt bs l (z : Int).toNat).1) (fb (endsAt bs l (z : Int).toNat).2)] (flb b)), dec (ConvP Tryd.prog 74 3 (flb a) (.int .i64 (m : Nat))), dec (CallP Tryd.prog .min #[74, 74] 74 #[false, true] [flb a, flb bigF] (flb a)), dec (CallP Tryd.prog .max #[74, 74] 74 #[false, true] [flb a, flb 0] (flb a)), !(FloatKind.f64.format.order a a != some Ordering.eq), dec (CallP Tryd.prog .real #[35] 74 #[false] [.complex .f64 (fb (endsAt bs l (z : Int).toNat).1) (fb (endsAt bs l (z : Int).toNat).2)] (flb a)), dec (KArg (strm bs l q) (seenF 0 l).length [strm bs l q, I z]), true && (true && rowsOne (hidRows l (z : Int).toNat) && Nat.ble ((0 + (hidRows l (z : Int).toNat).length) * 32) 140737488355328 && Nat.ble (0 + (hidRows l (z : Int).toNat).length) 9223372036854775807), dec (KArg (strm bs l q) (seenF 0 l).length [strm bs l q, I z]), decide ((z : Int) < q.length)]) := by kernel_rfl
theorem back_0e (bs : List Nat) (l : List Tok) (q r : List (List AV)) (r8 : AV) (e : Int) (z k a b m n : Nat) (ty ch fr to : Int) (zs : List Int) : outR [0, 1, 5, 7, 8, 9, 10, 11] [0] (runCode Tryd.prog 124 (callR3 bs l q r8) noPu 3000 lp3 (triM (backL bs l q nilS e z)) (triO []) 0 ⟨0, [.b true, fv a, .b false, fv a, fv a, iv m, fv b, .b false, fv b, fv b, iv n, .b false, .b false, .b false, .b false, .str zs, .b false, .b false, .int (z + 1 : Nat), .b true], []⟩) = some (.normal, [some (.sl 1 (rowsB bs)), some (.sl 4 (toks l)), some (strm bs l q), some (.sl 5 q), some (.sl 4 (seenR l (seenF 0 l).length)), some (.sr 0 4 0 (0 + (hidRows l (z : Int).toNat).length)), some (I (n : Nat)), some (I (z + 1 : Nat))], [some (.row 43 4 (List.take 0 [] ++ (hidRows l (z : Int).toNat)))], 1, [dec (IntKind.i64.wrap ((z : Int) + 1) = (z + 1 : Nat)), !decide ((z : Int) < (seenR l (seenF 0 l).length).length), !(!beqL (mkString (textOf bs (endsAt bs l (z : Int).toNat))).data.toList (mkString zs).data.toList), true && dec (StrOf (((rowsB bs).drop m).take (n - m)) zs), Nat.ble m n && Nat.ble n (rowsB bs).length && true, !decide ((n : Int) > (rowsB bs).length), !decide ((n : Int) < m), !decide ((m : Int) < e), true, dec (KArg (strm bs l q) (seenF 0 l).length [strm bs l q, I z]), dec (ConvP Tryd.prog 74 3 (flb b) (.int .i64 (n : Nat))), dec (CallP Tryd.prog .min #[74, 74] 74 #[false, true] [flb b, flb bigF] (flb b)), dec (CallP Tryd.prog .max #[74, 74] 74 #[false, true] [flb b, flb 0] (flb b)), !(FloatKind.f64.format.order b b != some Ordering.eq), dec (CallP Tryd.prog .imag #[35] 74 #[false] [.complex .f64 (fb (endsAt bs l (z : Int).toNat).1) (fb (endsAt bs l (z : Int).toNat).2)] (flb b)), dec (ConvP Tryd.prog 74 3 (flb a) (.int .i64 (m : Nat))), dec (CallP Tryd.prog .min #[74, 74] 74 #[false, true] [flb a, flb bigF] (flb a)), dec (CallP Tryd.prog .max #[74, 74] 74 #[false, true] [flb a, flb 0] (flb a)), !(FloatKind.f64.format.order a a != some Ordering.eq), dec (CallP Tryd.prog .real #[35] 74 #[false] [.complex .f64 (fb (endsAt bs l (z : Int).toNat).1) (fb (endsAt bs l (z : Int).toNat).2)] (flb a)), dec (KArg (strm bs l q) (seenF 0 l).length [strm bs l q, I z]), true && (true && rowsOne (hidRows l (z : Int).toNat) && Nat.ble ((0 + (hidRows l (z : Int).toNat).length) * 32) 140737488355328 && Nat.ble (0 + (hidRows l (z : Int).toNat).length) 9223372036854775807), dec (KArg (strm bs l q) (seenF 0 l).length [strm bs l q, I z]), decide ((z : Int) < q.length)]) := by kernel_rfl
theorem back_1s (bs : List Nat) (l : List Tok) (q r : List (List AV)) (r8 : AV) (e : Int) (z k a b m n : Nat) (ty ch fr to : Int) (zs : List Int) : outR [0, 1, 5, 7, 8, 9, 10, 11] [3] (runCode Tryd.prog 124 (callR3 bs l q r8) noPu 3000 lp3 (triM (backL bs l q (.sr 0 4 0 k) e z)) (triO [.row 43 4 r]) 1 ⟨1, [.b true, fv a, .b false, fv a, fv a, iv m, fv b, .b false, fv b, fv b, iv n, .b false, .b false, .b false, .b false, .str zs, .b false, .b true, .row [I ty, I ch, I fr, I to], .int (z + 1 : Nat), .b true], []⟩) = some (.normal, [some (.sl 1 (rowsB bs)), some (.sl 4 (toks l)), some (strm bs l q), some (.sl 5 q), some (.sl 4 (seenR l (seenF 0 l).length)), some (.sr 3 4 0 ((k + (hidRows l (z : Int).toNat).length) + 1)), some (I (n : Nat)), some (I (z + 1 : Nat))], [some (.row 43 4 (List.take (k + (hidRows l (z : Int).toNat).length) (List.take k r ++ (hidRows l (z : Int).toNat)) ++ [[I ty, I ch, I fr, I to]]))], 4, [dec (IntKind.i64.wrap ((z : Int) + 1) = (z + 1 : Nat)), (true && Nat.ble (k + (hidRows l (z : Int).toNat).length) (List.take k r ++ (hidRows l (z : Int).toNat)).length) && (true && Nat.ble (((k + (hidRows l (z : Int).toNat).length) + 1) * 32) 140737488355328 && Nat.ble ((k + (hidRows l (z : Int).toNat).length) + 1) 9223372036854775807), true && dec ((seenR l (seenF 0 l).length)[z]? = some [I ty, I ch, I fr, I to]), decide ((z : Int) < (seenR l (seenF 0 l).length).length), !(!beqL (mkString (textOf bs (endsAt bs l (z : Int).toNat))).data.toList (mkString zs).data.toList), true && dec (StrOf (((rowsB bs).drop m).take (n - m)) zs), Nat.ble m n && Nat.ble n (rowsB bs).length && true, !decide ((n : Int) > (rowsB bs).length), !decide ((n : Int) < m), !decide ((m : Int) < e), true, dec (KArg (strm bs l q) (seenF 0 l).length [strm bs l q, I z]), dec (ConvP Tryd.prog 74 3 (flb b) (.int .i64 (n : Nat))), dec (CallP Tryd.prog .min #[74, 74] 74 #[false, true] [flb b, flb bigF] (flb b)), dec (CallP Tryd.prog .max #[74, 74] 74 #[false, true] [flb b, flb 0] (flb b)), !(FloatKind.f64.format.order b b != some Ordering.eq), dec (CallP Tryd.prog .imag #[35] 74 #[false] [.complex .f64 (fb (endsAt bs l (z : Int).toNat).1) (fb (endsAt bs l (z : Int).toNat).2)] (flb b)), dec (ConvP Tryd.prog 74 3 (flb a) (.int .i64 (m : Nat))), dec (CallP Tryd.prog .min #[74, 74] 74 #[false, true] [flb a, flb bigF] (flb a)), dec (CallP Tryd.prog .max #[74, 74] 74 #[false, true] [flb a, flb 0] (flb a)), !(FloatKind.f64.format.order a a != some Ordering.eq), dec (CallP Tryd.prog .real #[35] 74 #[false] [.complex .f64 (fb (endsAt bs l (z : Int).toNat).1) (fb (endsAt bs l (z : Int).toNat).2)] (flb a)), dec (KArg (strm bs l q) (seenF 0 l).length [strm bs l q, I z]), (true && Nat.ble k r.length) && (true && rowsOne (hidRows l (z : Int).toNat) && Nat.ble ((k + (hidRows l (z : Int).toNat).length) * 32) 140737488355328 && Nat.ble (k + (hidRows l (z : Int).toNat).length) 9223372036854775807), dec (KArg (strm bs l q) (seenF 0 l).length [strm bs l q, I z]), decide ((z : Int) < q.length)]) := by kernel_rfl
theorem back_1e (bs : List Nat) (l : List Tok) (q r : List (List AV)) (r8 : AV) (e : Int) (z k a b m n : Nat) (ty ch fr to : Int) (zs : List Int) : outR [0, 1, 5, 7, 8, 9, 10, 11] [1] (runCode Tryd.prog 124 (callR3 bs l q r8) noPu 3000 lp3 (triM (backL bs l q (.sr 0 4 0 k) e z)) (triO [.row 43 4 r]) 1 ⟨1, [.b true, fv a, .b false, fv a, fv a, iv m, fv b, .b false, fv b, fv b, iv n, .b false, .b false, .b false, .b false, .str zs, .b false, .b false, .int (z + 1 : Nat), .b true], []⟩) = some (.normal, [some (.sl 1 (rowsB bs)), some (.sl 4 (toks l)), some (strm bs l q), some (.sl 5 q), some (.sl 4 (seenR l (seenF 0 l).length)), some (.sr 1 4 0 (k + (hidRows l (z : Int).toNat).length)), some (I (n : Nat)), some (I (z + 1 : Nat))], [some (.row 43 4 (List.take k r ++ (hidRows l (z : Int).toNat)))], 2, [dec (IntKind.i64.wrap ((z : Int) + 1) = (z + 1 : Nat)), !decide ((z : Int) < (seenR l (seenF 0 l).length).length), !(!beqL (mkString (textOf bs (endsAt bs l (z : Int).toNat))).data.toList (mkString zs).data.toList), true && dec (StrOf (((rowsB bs).drop m).take (n - m)) zs), Nat.ble m n && Nat.ble n (rowsB bs).length && true, !decide ((n : Int) > (rowsB bs).length), !decide ((n : Int) < m), !decide ((m : Int) < e), true, dec (KArg (strm bs l q) (seenF 0 l).length [strm bs l q, I z]), dec (ConvP Tryd.prog 74 3 (flb b) (.int .i64 (n : Nat))), dec (CallP Tryd.prog .min #[74, 74] 74 #[false, true] [flb b, flb bigF] (flb b)), dec (CallP Tryd.prog .max #[74, 74] 74 #[false, true] [flb b, flb 0] (flb b)), !(FloatKind.f64.format.order b b != some Ordering.eq), dec (CallP Tryd.prog .imag #[35] 74 #[false] [.complex .f64 (fb (endsAt bs l (z : Int).toNat).1) (fb (endsAt bs l (z : Int).toNat).2)] (flb b)), dec (ConvP Tryd.prog 74 3 (flb a) (.int .i64 (m : Nat))), dec (CallP Tryd.prog .min #[74, 74] 74 #[false, true] [flb a, flb bigF] (flb a)), dec (CallP Tryd.prog .max #[74, 74] 74 #[false, true] [flb a, flb 0] (flb a)), !(FloatKind.f64.format.order a a != some Ordering.eq), dec (CallP Tryd.prog .real #[35] 74 #[false] [.complex .f64 (fb (endsAt bs l (z : Int).toNat).1) (fb (endsAt bs l (z : Int).toNat).2)] (flb a)), dec (KArg (strm bs l q) (seenF 0 l).length [strm bs l q, I z]), (true && Nat.ble k r.length) && (true && rowsOne (hidRows l (z : Int).toNat) && Nat.ble ((k + (hidRows l (z : Int).toNat).length) * 32) 140737488355328 && Nat.ble (k + (hidRows l (z : Int).toNat).length) 9223372036854775807), dec (KArg (strm bs l q) (seenF 0 l).length [strm bs l q, I z]), decide ((z : Int) < q.length)]) := by kernel_rfl
theorem back_out (bs : List Nat) (l : List Tok) (q r : List (List AV)) (r8 : AV) (e : Int) (z k : Nat) : outR [0, 1, 5, 7, 8, 9, 10, 11] [0] (runCode Tryd.prog 124 (callR3 bs l q r8) noPu 3000 lp3 (triM (backL bs l q (.sr 0 4 0 k) e z)) (triO [.row 43 4 r]) 1 ⟨1, [.b false, .b true], []⟩) = some (.exit 0, [some (.sl 1 (rowsB bs)), some (.sl 4 (toks l)), some (strm bs l q), some (.sl 5 q), some (.sl 4 (seenR l (seenF 0 l).length)), some (.sr 0 4 0 k), some (I e), some (I z)], [some (.row 43 4 r)], 1, [!decide ((z : Int) < q.length)]) := by kernel_rfl
theorem back_tail (bs : List Nat) (l : List Tok) (q : List (List AV)) (r8 : AV) (e : Int) (z : Nat) : lastC Tryd.prog [.tmp 4] 0 (runCode Tryd.prog 124 (callR3 bs l q r8) noPu 3000 tl3 (triM (backL bs l q (.sl 4 (toks l)) e z)) (triO [.dead]) 1 ⟨1, [], []⟩) = some (.v (.bool true), [], [dec (([] : List AV) = []), dec ([AV.sl 4 (toks l), .sl 4 (toks l)] = [.sl 4 (toks l), .sl 4 (toks l)])]) := by kernel_rfl
theorem back_head (bs : List Nat) (l : List Tok) (q : List (List AV)) : outR [0, 1, 5, 7, 8, 9, 10, 11] [] (runL Tryd.prog 124 (callR3 bs l q (.tu [strm bs l q, I 0])) noPu 3000 (hd3 ++ [h3]) (argT 0 [.sl 1 (rowsB bs), .sl 4 (toks l)] .e) .e 0 ⟨0, [.b false, .b false, .b false, .int q.length, .b false, .b true, .b true], []⟩) = some (.normal, [some (.sl 1 (rowsB bs)), some (.sl 4 (toks l)), some (strm bs l q), some (.sl 5 q), some (.sl 4 (seenR l (seenF 0 l).length)), some nilS, some (I 0), some (I 0)], [], 0,
  [dec ([AV.sl 5 q] = [.sl 5 q]), decide ((q.length : Int) ≤ 601), !((q.length : Int) != q.length), dec (IntKind.i64.wrap (((seenR l (seenF 0 l).length).length : Int) + 1) = q.length), dec ([strm bs l q] = [strm bs l q]), dec ([strm bs l q] = [strm bs l q]), true, dec ([AV.sl 1 (rowsB bs), .sl 4 (toks l)] = [.sl 1 (rowsB bs), .sl 4 (toks l)]), !decide (((toks l).length : Int) > 400), !decide (((rowsB bs).length : Int) > 2000)]) := by kernel_rfl
theorem back_g1 (bs : List Nat) (l : List Tok) : outC (runOne Tryd.prog noPu 3000 callG 3 [.sl 1 (rowsB bs), .sl 4 (toks l)] .e 0 ⟨0, [.b true], []⟩) = some (.v (.bool true), [], [dec (([] : List AV) = []), decide (((rowsB bs).length : Int) > 2000)]) := by kernel_rfl
theorem back_g2 (bs : List Nat) (l : List Tok) : outC (runOne Tryd.prog noPu 3000 callG 3 [.sl 1 (rowsB bs), .sl 4 (toks l)] .e 0 ⟨0, [.b false, .b true], []⟩) = some (.v (.bool true), [], [dec (([] : List AV) = []), decide (((toks l).length : Int) > 400), !decide (((rowsB bs).length : Int) > 2000)]) := by kernel_rfl
theorem back_no (bs : List Nat) (l : List Tok) : outC (runOne Tryd.prog noPu 3000 (callN bs l) 3 [.sl 1 (rowsB bs), .sl 4 (toks l)] .e 0 ⟨0, [.b false, .b false, .b true], []⟩) = some (.v (.bool true), [], [dec (([] : List AV) = []), true, dec ([AV.sl 1 (rowsB bs), .sl 4 (toks l)] = [.sl 1 (rowsB bs), .sl 4 (toks l)]), !decide (((toks l).length : Int) > 400), !decide (((rowsB bs).length : Int) > 2000)]) := by kernel_rfl

/-! ### The plain law -/
section
variable {bs : List Nat} {l : List Tok}
noncomputable def itemsAll (bs : List Nat) (l : List Tok) : List (List AV) := itemsOf bs l ((seenF 0 l).length + 1)
theorem itemsAll_len : (itemsAll bs l).length = (seenF 0 l).length + 1 := itemsOf_len _ _ _
theorem pure_itemsAll : pureRows (itemsAll bs l) = true := pure_items _ _ _
theorem rows1_items (g : OkIn bs l) : Rows1 (itemsAll bs l) := by
  refine ⟨?_, pure_itemsAll, ?_⟩
  · unfold rowsOne itemsAll itemsOf
    rw [List.all_eq_true]
    intro r hr
    obtain ⟨k, _, rfl⟩ := List.mem_map.1 hr
    unfold itemAt
    split
    · split <;> rfl
    · rfl
  · rw [itemsAll_len]
    have := seenF_len l 0
    have := g.hn
    omega
theorem right_items (g : OkIn bs l) : ARet Tryd.prog 27 [.sl 5 (itemsAll bs l)] [] [] (.v (.bool true)) [] := by
  have h1 := seenF_len l 0
  have h2 := g.hn
  refine right_ok _ pure_itemsAll (by rw [itemsAll_len]; omega) (by rw [itemsAll_len]; omega) fun k hk => ?_
  rw [itemsAll_len] at hk ⊢
  have hget : (itemsAll bs l)[k]? = some (itemAt bs l k) := by
    unfold itemsAll itemsOf
    rw [List.getElem?_map, List.getElem?_range hk]
    rfl
  rw [hget]
  by_cases h : k < (seenF 0 l).length
  · obtain ⟨i, hi⟩ : ∃ i, (seenF 0 l)[k]? = some i := ⟨_, List.getElem?_eq_getElem h⟩
    obtain ⟨_, t, ht, _⟩ := seenF_get l 0 k i hi
    rw [Nat.sub_zero] at ht
    obtain ⟨_, _, _, _, g5, g6⟩ := fairF_tok g.hf t (List.mem_of_getElem? ht)
    exact ⟨t.ty, ((placeOf bs t.fr.toNat).2 : Nat), by simp only [itemAt, hi, ht], by omega, by omega, by omega, ⟨fun e => by omega, fun e => by omega⟩⟩
  · have hn : (seenF 0 l)[k]? = none := List.getElem?_eq_none (by omega)
    exact ⟨0, ((placeOf bs bs.length).2 : Nat), by simp only [itemAt, hn], by omega, by omega, by omega, ⟨fun _ => by omega, fun _ => rfl⟩⟩
theorem small_run (q : List (List AV)) : outC (runOne Tryd.prog noPu 3000 (known1 27 (fun args => args = [.sl 5 q]) tv' base) 11 [.sl 5 q] .e 0 ⟨0, [], []⟩) = some (.v (.bool true), [], [dec ([AV.sl 5 q] = [.sl 5 q])]) := by kernel_rfl
theorem small_items (g : OkIn bs l) : ARet Tryd.prog 11 [.sl 5 (itemsAll bs l)] [] [] (.v (.bool true)) [] :=
  aret_of_run (obs := []) (runOne_ok (known1_ok (fun args h => by subst h; exact ⟨right_items g, by simp [pureVals, AV.pure, pure_itemsAll], rfl⟩) base_ok) mixed _ _) (small_run _) (ac (dec_true.2 rfl) rfl)
theorem callG_ok : CallOk Tryd.prog callG := known1_ok (fun args h => by subst h; exact ⟨wakes_ok, rfl, rfl⟩) base_ok
theorem callR3_ok (g : OkIn bs l) : CallOk Tryd.prog (callR3 bs l (itemsAll bs l) (.tu [strm bs l (itemsAll bs l), I 0])) := by
  have hgl := g.hl
  have hgn := g.hn
  have hps := pure_strm (bs := bs) (l := l) (pure_itemsAll (bs := bs) (l := l))
  refine known1_ok (fun args h => ?_) (known1_ok (fun args h => ?_) (known1_ok (fun args h => ?_) (known1_ok (fun args h => ?_) (known1_ok (fun args h => ?_) (known1_ok (fun args h => ?_) (known1_ok (span13_known g itemsAll_len pure_itemsAll) (known1_ok (fun args h => ?_) (known1_ok (fun args h => ?_) base_ok))))))))
  · subst h; exact ⟨wakes_ok, rfl, rfl⟩
  · subst h; exact ⟨aret_weak (new_ok g.hb (by omega) (by omega) g.hf) new_weak, by simp [pureVals, AV.pure, pure_bytes, pure_toks], by simp [AV.pure, pureVals, hps]⟩
  · subst h; exact ⟨items_ok (rows1_items g), by simp [pureVals, hps], by simp [AV.pure, pure_itemsAll]⟩
  · subst h; exact ⟨seen_ok hgn pure_itemsAll, by simp [pureVals, hps], by simp [AV.pure, pure_seenR]⟩
  · subst h; exact ⟨small_items g, by simp [pureVals, AV.pure, pure_itemsAll], rfl⟩
  · obtain ⟨k, hk, rfl⟩ := h
    refine ⟨hidden_ok hgn itemsAll_len hk, by simp [pureVals, hps, AV.pure], ?_⟩
    simp only [hidRes, AV.pure, toks_piece]
    exact pure_toks _
  · obtain ⟨k, hk, rfl⟩ := h
    exact ⟨text_ok g itemsAll_len pure_itemsAll hk, by simp [pureVals, hps, AV.pure], rfl⟩
  · subst h; exact ⟨tokens_ok l (by omega), by simp [pureVals, AV.pure, pure_toks], rfl⟩
/-- how many tokens are back ahead of a round -/
def cutN (l : List Tok) : Nat → Nat
  | 0 => 0
  | j + 1 => match (seenF 0 l)[j]? with
    | some a => a + 1
    | none => l.length
/-- where the item ahead ended -/
def endN (bs : List Nat) (l : List Tok) : Nat → Nat
  | 0 => 0
  | j + 1 => (endsAt bs l j).2
def slotB (l : List Tok) : Nat → AV
  | 0 => nilS
  | j + 1 => .sr 0 4 0 (cutN l (j + 1))
def obB (l : List Tok) : Nat → List Ob
  | 0 => []
  | j + 1 => [.row 43 4 (toks (l.take (cutN l (j + 1))))]
theorem hid_fst {j : Nat} (hj : j ≤ (seenF 0 l).length) : (hidAt l j).1 = cutN l j := by
  cases j with
  | zero => rfl
  | succ j =>
    obtain ⟨a, ha⟩ : ∃ i, (seenF 0 l)[j]? = some i := ⟨_, List.getElem?_eq_getElem (by omega)⟩
    simp only [hidAt, cutN, ha]
theorem cut_le (j : Nat) : cutN l j ≤ l.length := by
  cases j with
  | zero => exact Nat.zero_le _
  | succ j =>
    simp only [cutN]
    split
    · rename_i a ha; have := seen_at ha; omega
    · exact Nat.le_refl _
theorem cut_seen {j b : Nat} (hb : (seenF 0 l)[j]? = some b) : cutN l j ≤ b := by
  cases j with
  | zero => exact Nat.zero_le _
  | succ j =>
    obtain ⟨a, ha⟩ : ∃ i, (seenF 0 l)[j]? = some i := ⟨_, List.getElem?_eq_getElem (by have := (List.getElem?_eq_some_iff.1 hb).1; omega)⟩
    have := seenF_lt l 0 j a b ha hb
    simp only [cutN, ha]
    omega
theorem ends_mono (g : OkIn bs l) (j : Nat) (hj : j ≤ (seenF 0 l).length) : endN bs l j ≤ (endsAt bs l j).1 := by
  cases j with
  | zero => exact Nat.zero_le _
  | succ j =>
    obtain ⟨a, ha⟩ : ∃ i, (seenF 0 l)[j]? = some i := ⟨_, List.getElem?_eq_getElem (by omega)⟩
    obtain ⟨_, t, ht, _⟩ := seenF_get l 0 j a ha
    rw [Nat.sub_zero] at ht
    have ft := fairF_tok g.hf t (List.mem_of_getElem? ht)
    have e1 : endsAt bs l j = (t.fr.toNat, t.to.toNat) := by simp only [endsAt, ha, ht]
    show (endsAt bs l j).2 ≤ _
    rw [e1]
    by_cases h : j + 1 < (seenF 0 l).length
    · obtain ⟨b, hb⟩ : ∃ i, (seenF 0 l)[j + 1]? = some i := ⟨_, List.getElem?_eq_getElem h⟩
      obtain ⟨_, u, hu, _⟩ := seenF_get l 0 (j + 1) b hb
      rw [Nat.sub_zero] at hu
      have e2 : endsAt bs l (j + 1) = (u.fr.toNat, u.to.toNat) := by simp only [endsAt, hb, hu]
      rw [e2]
      have := fairF_lt g.hf a b t u (seenF_lt l 0 j a b ha hb) ht hu
      simp only
      omega
    · have hn : (seenF 0 l)[j + 1]? = none := List.getElem?_eq_none (by omega)
      have e2 : endsAt bs l (j + 1) = (bs.length, bs.length) := by simp only [endsAt, hn]
      rw [e2]
      simp only
      omega
/-- what is hidden, at the end of what is back already -/
theorem hid_back {j b : Nat} (hj : j ≤ (seenF 0 l).length) (hb : (hidAt l j).2 = b) (h1 : cutN l j ≤ b) (h2 : b ≤ l.length) : toks (l.take (cutN l j)) ++ hidRows l j = toks (l.take b) ∧ (hidRows l j).length = b - cutN l j := by
  unfold hidRows
  rw [hid_fst hj, hb, toks_piece]
  constructor
  · unfold toks
    rw [← List.map_append]
    congr 1
    rw [List.take_drop, show cutN l j + (b - cutN l j) = b from by omega]
    conv => rhs; rw [← List.take_append_drop (cutN l j) (l.take b)]
    rw [List.take_take, Nat.min_eq_left h1]
  · rw [toks_len, List.length_take, List.length_drop]
    omega
end
end Go.Proofs.YtifnhnkogcgnaaaDoor
