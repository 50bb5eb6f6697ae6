/- Any place changed, by the program and by the document: tree.Put, ref24.Put. -/
import Derived.Test.YtobehholoenaiaaGreatDoorU1
namespace Go.Proofs.YtobehholoenaiaaGreatDoor
open Go.Am
noncomputable def callPZ (f : FuncId) (u : List AV) (p : List (List AV)) (x : List AV) (v : List AV) (e : Int) : CallF := known1 f (fun args => args = [.ag u, .sl 1 p, .ag x]) (fun _ => .tu [.ag v, I e]) base
theorem p9_nil (k r a tok ty : Int) (op : Bool) (R : List (List AV)) (k4 r4 a4 tok4 ty4 : Int) (op4 : Bool) (R4 : List (List AV)) : outC (runOne Tryz.prog noPu 3000 base 9 [.ag (cl k r a tok ty op R), .sl 1 [], .ag (cl k4 r4 a4 tok4 ty4 op4 R4)] .e 0 ⟨0, [.b true, .b true], []⟩) =
    some (AV.tu [AV.ag [AV.v (Value.int IntKind.i8 k4), I r4, I a4, I tok4, I ty4, B op4, AV.sl 7 R4], I 0], [some (Ob.box 25 [AV.v (Value.int IntKind.i8 k), I r, I a, I tok, I ty, B op, AV.sl 7 R]), some (Ob.box 25 [AV.v (Value.int IntKind.i8 k4), I r4, I a4, I tok4, I ty4, B op4, AV.sl 7 R4]), some (Ob.box 25 [AV.v (Value.int IntKind.i8 k4), I r4, I a4, I tok4, I ty4, B op4, AV.sl 7 R4])], [true]) := by kernel_rfl
theorem p9_neg (k r a tok ty : Int) (op : Bool) (R : List (List AV)) (k4 r4 a4 tok4 ty4 : Int) (op4 : Bool) (R4 : List (List AV)) (i : Int) (p : List (List AV)) : outC (runOne Tryz.prog noPu 3000 base 9 [.ag (cl k r a tok ty op R), .sl 1 ([I i] :: p), .ag (cl k4 r4 a4 tok4 ty4 op4 R4)] .e 0 ⟨0, [.b false, .row [I i], .b true, .b true], []⟩) =
    some (AV.tu [AV.ag [AV.v (Value.int IntKind.i8 0), I 0, I 0, I 0, I 0, B false, AV.v (Value.slice none 0 0)], I 4], [some (Ob.box 25 [AV.v (Value.int IntKind.i8 k), I r, I a, I tok, I ty, B op, AV.sl 7 R]), some (Ob.box 25 [AV.v (Value.int IntKind.i8 k4), I r4, I a4, I tok4, I ty4, B op4, AV.sl 7 R4]), some (Ob.box 25 [AV.v (Value.int IntKind.i8 0), I 0, I 0, I 0, I 0, B false, AV.v (Value.slice none 0 0)])], [decide (i < 0), dec (some [I i] = some [I i]), true]) := by kernel_rfl
theorem p9_far (k r a tok ty : Int) (op : Bool) (R : List (List AV)) (k4 r4 a4 tok4 ty4 : Int) (op4 : Bool) (R4 : List (List AV)) (i : Int) (p : List (List AV)) : outC (runOne Tryz.prog noPu 3000 base 9 [.ag (cl k r a tok ty op R), .sl 1 ([I i] :: p), .ag (cl k4 r4 a4 tok4 ty4 op4 R4)] .e 0 ⟨0, [.b false, .row [I i], .b false, .b true, .b true], []⟩) =
    some (AV.tu [AV.ag [AV.v (Value.int IntKind.i8 0), I 0, I 0, I 0, I 0, B false, AV.v (Value.slice none 0 0)], I 4], [some (Ob.box 25 [AV.v (Value.int IntKind.i8 k), I r, I a, I tok, I ty, B op, AV.sl 7 R]), some (Ob.box 25 [AV.v (Value.int IntKind.i8 k4), I r4, I a4, I tok4, I ty4, B op4, AV.sl 7 R4]), some (Ob.box 25 [AV.v (Value.int IntKind.i8 0), I 0, I 0, I 0, I 0, B false, AV.v (Value.slice none 0 0)])], [decide (i ≥ (↑(List.length R) : Int)), !decide (i < 0), dec (some [I i] = some [I i]), true]) := by kernel_rfl
theorem p9_bad (k r a tok ty : Int) (op : Bool) (R : List (List AV)) (k2 r2 a2 tok2 ty2 : Int) (op2 : Bool) (R2 : List (List AV)) (k3 r3 a3 tok3 ty3 : Int) (op3 : Bool) (R3 : List (List AV)) (k4 r4 a4 tok4 ty4 : Int) (op4 : Bool) (R4 : List (List AV)) (i : Nat) (p : List (List AV)) (e : Int) : outC (runOne Tryz.prog noPu 3000 (callPZ 9 (cl k2 r2 a2 tok2 ty2 op2 R2) p (cl k4 r4 a4 tok4 ty4 op4 R4) (cl k3 r3 a3 tok3 ty3 op3 R3) e) 9 [.ag (cl k r a tok ty op R), .sl 1 ([I i] :: p), .ag (cl k4 r4 a4 tok4 ty4 op4 R4)] .e 0 ⟨0, [.b false, .row [I i], .b false, .b false, .row (cl k2 r2 a2 tok2 ty2 op2 R2), .b true, .b true], []⟩) =
    some (AV.tu [AV.ag [AV.v (Value.int IntKind.i8 0), I 0, I 0, I 0, I 0, B false, AV.v (Value.slice none 0 0)], I e], [some (Ob.box 25 [AV.v (Value.int IntKind.i8 k), I r, I a, I tok, I ty, B op, AV.sl 7 R]), some (Ob.box 25 [AV.v (Value.int IntKind.i8 k4), I r4, I a4, I tok4, I ty4, B op4, AV.sl 7 R4]), some (Ob.box 25 [AV.v (Value.int IntKind.i8 0), I 0, I 0, I 0, I 0, B false, AV.v (Value.slice none 0 0)]), some (Ob.box 25 [AV.v (Value.int IntKind.i8 k3), I r3, I a3, I tok3, I ty3, B op3, AV.sl 7 R3])], [e != 0, AV.pure (AV.tu [AV.ag [AV.v (Value.int IntKind.i8 k3), I r3, I a3, I tok3, I ty3, B op3, AV.sl 7 R3], I e]), dec ([AV.ag [AV.v (Value.int IntKind.i8 k2), I r2, I a2, I tok2, I ty2, B op2, AV.sl 7 R2], AV.sl 1 (List.take (List.length ([I (↑i : Int)] :: p) - 1) p), AV.ag [AV.v (Value.int IntKind.i8 k4), I r4, I a4, I tok4, I ty4, B op4, AV.sl 7 R4]] = [AV.ag [AV.v (Value.int IntKind.i8 k2), I r2, I a2, I tok2, I ty2, B op2, AV.sl 7 R2], AV.sl 1 p, AV.ag [AV.v (Value.int IntKind.i8 k4), I r4, I a4, I tok4, I ty4, B op4, AV.sl 7 R4]]), pureVals [AV.ag [AV.v (Value.int IntKind.i8 k2), I r2, I a2, I tok2, I ty2, B op2, AV.sl 7 R2], AV.sl 1 (List.take (List.length ([I (↑i : Int)] :: p) - 1) p), AV.ag [AV.v (Value.int IntKind.i8 k4), I r4, I a4, I tok4, I ty4, B op4, AV.sl 7 R4]] && true && true, Nat.ble (List.length ([I (↑i : Int)] :: p)) (List.length ([I (↑i : Int)] :: p)) && true, dec (R[i]? = some [AV.v (Value.int IntKind.i8 k2), I r2, I a2, I tok2, I ty2, B op2, AV.sl 7 R2]), !decide ((↑i : Int) ≥ (↑(List.length R) : Int)), true, dec (some [I (↑i : Int)] = some [I (↑i : Int)]), true]) := by kernel_rfl
theorem p9_run (k r a tok ty : Int) (op : Bool) (R : List (List AV)) (k2 r2 a2 tok2 ty2 : Int) (op2 : Bool) (R2 : List (List AV)) (k3 r3 a3 tok3 ty3 : Int) (op3 : Bool) (R3 : List (List AV)) (k4 r4 a4 tok4 ty4 : Int) (op4 : Bool) (R4 : List (List AV)) (i : Nat) (p : List (List AV)) (e : Int) : outC (runOne Tryz.prog noPu 3000 (callPZ 9 (cl k2 r2 a2 tok2 ty2 op2 R2) p (cl k4 r4 a4 tok4 ty4 op4 R4) (cl k3 r3 a3 tok3 ty3 op3 R3) e) 9 [.ag (cl k r a tok ty op R), .sl 1 ([I i] :: p), .ag (cl k4 r4 a4 tok4 ty4 op4 R4)] .e 0 ⟨0, [.b false, .row [I i], .b false, .b false, .row (cl k2 r2 a2 tok2 ty2 op2 R2), .b false, .cut, .int (i+1 : Nat), .b true], []⟩) =
    some (AV.tu [AV.ag [AV.v (Value.int IntKind.i8 k), I r, I a, I tok, I ty, B op, AV.sr 6 7 0 (List.length (List.take i R) + 1 + List.length (List.take (List.length R - (i + 1)) (List.drop (i + 1) R)))], I 0], [some (Ob.box 25 [AV.v (Value.int IntKind.i8 k), I r, I a, I tok, I ty, B op, AV.sr 6 7 0 (List.length (List.take i R) + 1 + List.length (List.take (List.length R - (i + 1)) (List.drop (i + 1) R)))]), some (Ob.box 25 [AV.v (Value.int IntKind.i8 k4), I r4, I a4, I tok4, I ty4, B op4, AV.sl 7 R4]), some (Ob.box 25 [AV.v (Value.int IntKind.i8 k), I r, I a, I tok, I ty, B op, AV.sr 6 7 0 (List.length (List.take i R) + 1 + List.length (List.take (List.length R - (i + 1)) (List.drop (i + 1) R)))]), some (Ob.box 25 [AV.v (Value.int IntKind.i8 k3), I r3, I a3, I tok3, I ty3, B op3, AV.sl 7 R3]), some (Ob.row 25 7 [[AV.v (Value.int IntKind.i8 k3), I r3, I a3, I tok3, I ty3, B op3, AV.sl 7 R3]]), some Ob.dead, some (Ob.row 25 7 (List.take (List.length (List.take i R) + 1) (List.take (List.length (List.take i R)) (List.take i R) ++ [[AV.v (Value.int IntKind.i8 k3), I r3, I a3, I tok3, I ty3, B op3, AV.sl 7 R3]]) ++ List.take (List.length R - (i + 1)) (List.drop (i + 1) R)))], [Nat.ble (List.length (List.take i R) + 1) (List.length (List.take (List.length (List.take i R)) (List.take i R) ++ [[AV.v (Value.int IntKind.i8 k3), I r3, I a3, I tok3, I ty3, B op3, AV.sl 7 R3]])) && true && (rowsOne (List.take (List.length R - (i + 1)) (List.drop (i + 1) R)) && Nat.ble ((List.length (List.take i R) + 1 + List.length (List.take (List.length R - (i + 1)) (List.drop (i + 1) R))) * 72) 140737488355328 && Nat.ble (List.length (List.take i R) + 1 + List.length (List.take (List.length R - (i + 1)) (List.drop (i + 1) R))) 9223372036854775807 && true), Nat.ble (i + 1) (List.length R) && Nat.ble (List.length R) (List.length R) && true, dec (IntKind.wrap IntKind.i64 (↑(i + 1) : Int) = (↑(i + 1) : Int)), Nat.ble ((List.length (List.take i R) + 1) * 72) 140737488355328 && Nat.ble (List.length (List.take i R) + 1) 9223372036854775807 && true, dec (0 ≤ i ∧ i = i ∧ i ≤ List.length R), !e != 0, AV.pure (AV.tu [AV.ag [AV.v (Value.int IntKind.i8 k3), I r3, I a3, I tok3, I ty3, B op3, AV.sl 7 R3], I e]), dec ([AV.ag [AV.v (Value.int IntKind.i8 k2), I r2, I a2, I tok2, I ty2, B op2, AV.sl 7 R2], AV.sl 1 (List.take (List.length ([I (↑i : Int)] :: p) - 1) p), AV.ag [AV.v (Value.int IntKind.i8 k4), I r4, I a4, I tok4, I ty4, B op4, AV.sl 7 R4]] = [AV.ag [AV.v (Value.int IntKind.i8 k2), I r2, I a2, I tok2, I ty2, B op2, AV.sl 7 R2], AV.sl 1 p, AV.ag [AV.v (Value.int IntKind.i8 k4), I r4, I a4, I tok4, I ty4, B op4, AV.sl 7 R4]]), pureVals [AV.ag [AV.v (Value.int IntKind.i8 k2), I r2, I a2, I tok2, I ty2, B op2, AV.sl 7 R2], AV.sl 1 (List.take (List.length ([I (↑i : Int)] :: p) - 1) p), AV.ag [AV.v (Value.int IntKind.i8 k4), I r4, I a4, I tok4, I ty4, B op4, AV.sl 7 R4]] && true && true, Nat.ble (List.length ([I (↑i : Int)] :: p)) (List.length ([I (↑i : Int)] :: p)) && true, dec (R[i]? = some [AV.v (Value.int IntKind.i8 k2), I r2, I a2, I tok2, I ty2, B op2, AV.sl 7 R2]), !decide ((↑i : Int) ≥ (↑(List.length R) : Int)), true, dec (some [I (↑i : Int)] = some [I (↑i : Int)]), true]) := by kernel_rfl
theorem p10_nil (k r a tok ty : Int) (op : Bool) (R : List (List AV)) (k4 r4 a4 tok4 ty4 : Int) (op4 : Bool) (R4 : List (List AV)) : outC (runOne Tryz.prog noPu 3000 base 10 [.ag (cl k r a tok ty op R), .sl 1 [], .ag (cl k4 r4 a4 tok4 ty4 op4 R4)] .e 0 ⟨0, [.b true, .b true], []⟩) =
    some (AV.tu [AV.ag [AV.v (Value.int IntKind.i8 k4), I r4, I a4, I tok4, I ty4, B op4, AV.sl 7 R4], I 0], [some (Ob.box 25 [AV.v (Value.int IntKind.i8 k), I r, I a, I tok, I ty, B op, AV.sl 7 R]), some (Ob.box 25 [AV.v (Value.int IntKind.i8 k4), I r4, I a4, I tok4, I ty4, B op4, AV.sl 7 R4]), some (Ob.box 25 [AV.v (Value.int IntKind.i8 k4), I r4, I a4, I tok4, I ty4, B op4, AV.sl 7 R4])], [true]) := by kernel_rfl
theorem p10_neg (k r a tok ty : Int) (op : Bool) (R : List (List AV)) (k4 r4 a4 tok4 ty4 : Int) (op4 : Bool) (R4 : List (List AV)) (i : Int) (p : List (List AV)) : outC (runOne Tryz.prog noPu 3000 base 10 [.ag (cl k r a tok ty op R), .sl 1 ([I i] :: p), .ag (cl k4 r4 a4 tok4 ty4 op4 R4)] .e 0 ⟨0, [.b false, .row [I i], .b true, .b true], []⟩) =
    some (AV.tu [AV.ag [AV.v (Value.int IntKind.i8 0), I 0, I 0, I 0, I 0, B false, AV.v (Value.slice none 0 0)], I 4], [some (Ob.box 25 [AV.v (Value.int IntKind.i8 k), I r, I a, I tok, I ty, B op, AV.sl 7 R]), some (Ob.box 25 [AV.v (Value.int IntKind.i8 k4), I r4, I a4, I tok4, I ty4, B op4, AV.sl 7 R4]), some (Ob.box 25 [AV.v (Value.int IntKind.i8 0), I 0, I 0, I 0, I 0, B false, AV.v (Value.slice none 0 0)])], [decide (i < 0), dec (some [I i] = some [I i]), true]) := by kernel_rfl
theorem p10_far (k r a tok ty : Int) (op : Bool) (R : List (List AV)) (k4 r4 a4 tok4 ty4 : Int) (op4 : Bool) (R4 : List (List AV)) (i : Int) (p : List (List AV)) : outC (runOne Tryz.prog noPu 3000 base 10 [.ag (cl k r a tok ty op R), .sl 1 ([I i] :: p), .ag (cl k4 r4 a4 tok4 ty4 op4 R4)] .e 0 ⟨0, [.b false, .row [I i], .b false, .row [I i], .b true, .b true], []⟩) =
    some (AV.tu [AV.ag [AV.v (Value.int IntKind.i8 0), I 0, I 0, I 0, I 0, B false, AV.v (Value.slice none 0 0)], I 4], [some (Ob.box 25 [AV.v (Value.int IntKind.i8 k), I r, I a, I tok, I ty, B op, AV.sl 7 R]), some (Ob.box 25 [AV.v (Value.int IntKind.i8 k4), I r4, I a4, I tok4, I ty4, B op4, AV.sl 7 R4]), some (Ob.box 25 [AV.v (Value.int IntKind.i8 0), I 0, I 0, I 0, I 0, B false, AV.v (Value.slice none 0 0)])], [decide (i ≥ (↑(List.length R) : Int)), dec (some [I i] = some [I i]), !decide (i < 0), dec (some [I i] = some [I i]), true]) := by kernel_rfl
theorem p10_bad (k r a tok ty : Int) (op : Bool) (R : List (List AV)) (k2 r2 a2 tok2 ty2 : Int) (op2 : Bool) (R2 : List (List AV)) (k3 r3 a3 tok3 ty3 : Int) (op3 : Bool) (R3 : List (List AV)) (k4 r4 a4 tok4 ty4 : Int) (op4 : Bool) (R4 : List (List AV)) (i : Nat) (p : List (List AV)) (e : Int) : outC (runOne Tryz.prog noPu 3000 (callPZ 10 (cl k2 r2 a2 tok2 ty2 op2 R2) p (cl k4 r4 a4 tok4 ty4 op4 R4) (cl k3 r3 a3 tok3 ty3 op3 R3) e) 10 [.ag (cl k r a tok ty op R), .sl 1 ([I i] :: p), .ag (cl k4 r4 a4 tok4 ty4 op4 R4)] .e 0 ⟨0, [.b false, .row [I i], .b false, .row [I i], .b false, .row [I i], .row (cl k2 r2 a2 tok2 ty2 op2 R2), .b true, .b true], []⟩) =
    some (AV.tu [AV.ag [AV.v (Value.int IntKind.i8 0), I 0, I 0, I 0, I 0, B false, AV.v (Value.slice none 0 0)], I e], [some (Ob.box 25 [AV.v (Value.int IntKind.i8 k), I r, I a, I tok, I ty, B op, AV.sl 7 R]), some (Ob.box 25 [AV.v (Value.int IntKind.i8 k4), I r4, I a4, I tok4, I ty4, B op4, AV.sl 7 R4]), some (Ob.box 25 [AV.v (Value.int IntKind.i8 0), I 0, I 0, I 0, I 0, B false, AV.v (Value.slice none 0 0)]), some (Ob.box 25 [AV.v (Value.int IntKind.i8 k3), I r3, I a3, I tok3, I ty3, B op3, AV.sl 7 R3])], [e != 0, AV.pure (AV.tu [AV.ag [AV.v (Value.int IntKind.i8 k3), I r3, I a3, I tok3, I ty3, B op3, AV.sl 7 R3], I e]), dec ([AV.ag [AV.v (Value.int IntKind.i8 k2), I r2, I a2, I tok2, I ty2, B op2, AV.sl 7 R2], AV.sl 1 (List.take (List.length ([I (↑i : Int)] :: p) - 1) p), AV.ag [AV.v (Value.int IntKind.i8 k4), I r4, I a4, I tok4, I ty4, B op4, AV.sl 7 R4]] = [AV.ag [AV.v (Value.int IntKind.i8 k2), I r2, I a2, I tok2, I ty2, B op2, AV.sl 7 R2], AV.sl 1 p, AV.ag [AV.v (Value.int IntKind.i8 k4), I r4, I a4, I tok4, I ty4, B op4, AV.sl 7 R4]]), pureVals [AV.ag [AV.v (Value.int IntKind.i8 k2), I r2, I a2, I tok2, I ty2, B op2, AV.sl 7 R2], AV.sl 1 (List.take (List.length ([I (↑i : Int)] :: p) - 1) p), AV.ag [AV.v (Value.int IntKind.i8 k4), I r4, I a4, I tok4, I ty4, B op4, AV.sl 7 R4]] && true && true, Nat.ble (List.length ([I (↑i : Int)] :: p)) (List.length ([I (↑i : Int)] :: p)) && true, dec (R[i]? = some [AV.v (Value.int IntKind.i8 k2), I r2, I a2, I tok2, I ty2, B op2, AV.sl 7 R2]), dec (some [I (↑i : Int)] = some [I (↑i : Int)]), !decide ((↑i : Int) ≥ (↑(List.length R) : Int)), dec (some [I (↑i : Int)] = some [I (↑i : Int)]), true, dec (some [I (↑i : Int)] = some [I (↑i : Int)]), true]) := by kernel_rfl
theorem p10_run (k r a tok ty : Int) (op : Bool) (r0 : List AV) (R1 : List (List AV)) (k2 r2 a2 tok2 ty2 : Int) (op2 : Bool) (R2 : List (List AV)) (k3 r3 a3 tok3 ty3 : Int) (op3 : Bool) (R3 : List (List AV)) (k4 r4 a4 tok4 ty4 : Int) (op4 : Bool) (R4 : List (List AV)) (i : Nat) (p : List (List AV)) (e : Int) : outC (runOne Tryz.prog noPu 3000 (callPZ 10 (cl k2 r2 a2 tok2 ty2 op2 R2) p (cl k4 r4 a4 tok4 ty4 op4 R4) (cl k3 r3 a3 tok3 ty3 op3 R3) e) 10 [.ag (cl k r a tok ty op (r0 :: R1)), .sl 1 ([I i] :: p), .ag (cl k4 r4 a4 tok4 ty4 op4 R4)] .e 0 ⟨0, [.b false, .row [I i], .b false, .row [I i], .b false, .row [I i], .row (cl k2 r2 a2 tok2 ty2 op2 R2), .b false, .row [I i], .at i 0 (cl k2 r2 a2 tok2 ty2 op2 R2), .b true], []⟩) =
    some (AV.tu [AV.ag [AV.v (Value.int IntKind.i8 k), I r, I a, I tok, I ty, B op, AV.sr 4 7 0 (0 + List.length (r0 :: R1))], I 0], [some (Ob.box 25 [AV.v (Value.int IntKind.i8 k), I r, I a, I tok, I ty, B op, AV.sr 4 7 0 (0 + List.length (r0 :: R1))]), some (Ob.box 25 [AV.v (Value.int IntKind.i8 k4), I r4, I a4, I tok4, I ty4, B op4, AV.sl 7 R4]), some (Ob.box 25 [AV.v (Value.int IntKind.i8 k), I r, I a, I tok, I ty, B op, AV.sr 4 7 0 (0 + List.length (r0 :: R1))]), some (Ob.box 25 [AV.v (Value.int IntKind.i8 k3), I r3, I a3, I tok3, I ty3, B op3, AV.sl 7 R3]), some (Ob.row 25 7 (List.set (r0 :: R1) i [AV.v (Value.int IntKind.i8 k3), I r3, I a3, I tok3, I ty3, B op3, AV.sl 7 R3]))], [dec ((0 + i * 7) / 7 = i) && (dec ((0 + i * 7) % 7 = 0) && dec ((r0 :: R1)[i]? = some [AV.v (Value.int IntKind.i8 k2), I r2, I a2, I tok2, I ty2, B op2, AV.sl 7 R2])) && true, Nat.blt i (0 + List.length (r0 :: R1)), dec (some [I (↑i : Int)] = some [I (↑i : Int)]), rowsOne (r0 :: R1) && Nat.ble ((0 + List.length (r0 :: R1)) * 72) 140737488355328 && Nat.ble (0 + List.length (r0 :: R1)) 9223372036854775807 && true, !e != 0, AV.pure (AV.tu [AV.ag [AV.v (Value.int IntKind.i8 k3), I r3, I a3, I tok3, I ty3, B op3, AV.sl 7 R3], I e]), dec ([AV.ag [AV.v (Value.int IntKind.i8 k2), I r2, I a2, I tok2, I ty2, B op2, AV.sl 7 R2], AV.sl 1 (List.take (List.length ([I (↑i : Int)] :: p) - 1) p), AV.ag [AV.v (Value.int IntKind.i8 k4), I r4, I a4, I tok4, I ty4, B op4, AV.sl 7 R4]] = [AV.ag [AV.v (Value.int IntKind.i8 k2), I r2, I a2, I tok2, I ty2, B op2, AV.sl 7 R2], AV.sl 1 p, AV.ag [AV.v (Value.int IntKind.i8 k4), I r4, I a4, I tok4, I ty4, B op4, AV.sl 7 R4]]), pureVals [AV.ag [AV.v (Value.int IntKind.i8 k2), I r2, I a2, I tok2, I ty2, B op2, AV.sl 7 R2], AV.sl 1 (List.take (List.length ([I (↑i : Int)] :: p) - 1) p), AV.ag [AV.v (Value.int IntKind.i8 k4), I r4, I a4, I tok4, I ty4, B op4, AV.sl 7 R4]] && true && true, Nat.ble (List.length ([I (↑i : Int)] :: p)) (List.length ([I (↑i : Int)] :: p)) && true, dec ((r0 :: R1)[i]? = some [AV.v (Value.int IntKind.i8 k2), I r2, I a2, I tok2, I ty2, B op2, AV.sl 7 R2]), dec (some [I (↑i : Int)] = some [I (↑i : Int)]), !decide ((↑i : Int) ≥ (↑(List.length (r0 :: R1)) : Int)), dec (some [I (↑i : Int)] = some [I (↑i : Int)]), true, dec (some [I (↑i : Int)] = some [I (↑i : Int)]), true]) := by kernel_rfl

/-- a tree with what stands at a place changed, if there is such a place -/
def putZ : Tr → List Int → Tr → Option Tr
  | _, [], x => some x
  | t, i :: p, x => if 0 ≤ i then match t.kids[i.toNat]? with
    | some k => match putZ k p x with
      | some v => some (t.withKids (t.kids.set i.toNat v))
      | none => none
    | none => none else none
def putR (t : Tr) (p : List Int) (x : Tr) : Tr × Int := match putZ t p x with
  | some y => (y, 0)
  | none => (zeroTr, 4)
theorem putR_nil (t x : Tr) : putR t [] x = (x, 0) := rfl
theorem putR_neg {t x : Tr} {i : Int} {p : List Int} (h : ¬ 0 ≤ i) : putR t (i :: p) x = (zeroTr, 4) := by simp [putR, putZ, h]
theorem putR_far {t x : Tr} {i : Nat} {p : List Int} (h : t.kids[i]? = none) : putR t (i :: p) x = (zeroTr, 4) := by simp [putR, putZ, h]
theorem putR_bad {t x u : Tr} {i : Nat} {p : List Int} (h : t.kids[i]? = some u) (k : putZ u p x = none) : putR t (i :: p) x = (zeroTr, 4) := by simp [putR, putZ, h, k]
theorem putR_ok {t x u v : Tr} {i : Nat} {p : List Int} (h : t.kids[i]? = some u) (k : putZ u p x = some v) : putR t (i :: p) x = (t.withKids (t.kids.set i v), 0) := by simp [putR, putZ, h, k]
theorem take1 {α : Type} (a : α) (p : List α) : List.take ((a :: p).length - 1) p = p := by simp
theorem pure_ag (u : Tr) : (AV.ag (cells u)).pure = true := by simp [AV.pure, pure_cells]
theorem ble_self (n : Nat) : Nat.ble n n = true := nle (Nat.le_refl _)
theorem callPZ_ok {f : FuncId} {u x v : Tr} {p : List Int} {e : Int} (h : ARet Tryz.prog f [tv u, .sl 1 (rowsZ p), tv x] [] [] (.tu [tv v, I e]) []) (hf : Nat.blt f yBase = true) : CallOk Tryz.prog (callPZ f (cells u) (rowsZ p) (cells x) (cells v) e) :=
  known1_ok (fun args e => by subst e; exact ⟨h, by simp [pureVals, AV.pure, pure_cells, pure_rowsZ], by simp [AV.pure, pureVals, pure_cells]⟩) base_ok hf
theorem rowsZ_cons (i : Int) (p : List Int) : rowsZ (i :: p) = [I i] :: rowsZ p := rfl
theorem und_z (e : Int) : (AV.tu [.ag zeroT, I e]).und 0 = true := by simp [AV.und, undVals, zeroT]
theorem put9z : ∀ (p : List Int) (t x : Tr), size t ≤ 100000 → p.length ≤ 9223372036854775807 → ARet Tryz.prog 9 [tv t, .sl 1 (rowsZ p), tv x] [] [] (.tu [tv (putR t p x).1, I (putR t p x).2]) []
  | [], .mk k r a tok ty op l, .mk k4 r4 a4 tok4 ty4 op4 l4, _, _ =>
    aret_fin (aret_of_run (obs := [_, _, _]) (runOne_ok base_ok mixed _ _) (p9_nil k r a tok ty op (rowsT l) k4 r4 a4 tok4 ty4 op4 (rowsT l4)) rfl) (und_y _ _)
  | i :: p, .mk k r a tok ty op l, .mk k4 r4 a4 tok4 ty4 op4 l4, hs, hp => by
    rw [rowsZ_cons]
    by_cases h0 : 0 ≤ i
    · obtain ⟨n, rfl⟩ : ∃ n : Nat, i = n := ⟨i.toNat, by omega⟩
      cases hk : l[n]? with
      | none =>
        rw [putR_far (t := .mk k r a tok ty op l) hk]
        exact aret_weak (aret_fin (aret_of_run (obs := [_, _, _]) (runOne_ok base_ok mixed _ _) (p9_far k r a tok ty op (rowsT l) k4 r4 a4 tok4 ty4 op4 (rowsT l4) n (rowsZ p)) (ac (by simp [rowsT_len]; exact List.getElem?_eq_none_iff.1 hk) (ac (by simp) (ac (dec_true.2 rfl) (ac rfl rfl))))) (und_z 4)) (weak_zero 4)
      | some u =>
        have hsz : size u ≤ 100000 := by have := size_kid hk; simp only [size] at hs; omega
        have hp' : p.length ≤ 9223372036854775807 := by simp at hp; omega
        have hll : l.length ≤ 100000 := by have := length_sizes l; simp only [size] at hs; omega
        have hil : n < l.length := (List.getElem?_eq_some_iff.1 hk).1
        have ih := put9z p u (.mk k4 r4 a4 tok4 ty4 op4 l4) hsz hp'
        unfold putR at ih
        cases hq : putZ u p (.mk k4 r4 a4 tok4 ty4 op4 l4) with
        | none =>
          rw [hq] at ih
          rw [putR_bad (t := .mk k r a tok ty op l) hk hq]
          have hc := callPZ_ok ih rfl
          obtain ⟨k2, r2, a2, tok2, ty2, op2, l2⟩ := u
          exact aret_weak (aret_fin (aret_of_run (obs := [_, _, _, _]) (runOne_ok hc mixed _ _) (p9_bad k r a tok ty op (rowsT l) k2 r2 a2 tok2 ty2 op2 (rowsT l2) 0 0 0 0 0 false (rowsT []) k4 r4 a4 tok4 ty4 op4 (rowsT l4) n (rowsZ p) 4)
            (ac rfl (ac (by simp [AV.pure, pureVals, pure_rowsT]) (ac (dec_true.2 (by rw [take1])) (ac (by rw [take1]; simp [AV.pure, pureVals, pure_rowsZ, pure_rowsT]) (ac (andt (ble_self _) rfl) (ac (d_rowT hk) (ac (nge2 hk) (ac rfl (ac (dec_true.2 rfl) (ac rfl rfl))))))))))) (und_z 4)) (weak_zero 4)
        | some v =>
          rw [hq] at ih
          rw [putR_ok (t := .mk k r a tok ty op l) hk hq]
          have hc := callPZ_ok ih rfl
          obtain ⟨k3, r3, a3, tok3, ty3, op3, l3⟩ := v
          obtain ⟨k2, r2, a2, tok2, ty2, op2, l2⟩ := u
          have hlt : (List.take n (rowsT l)).length = n := by rw [List.length_take, rowsT_len]; omega
          refine aret_fin (aret_frz (aret_of_run (obs := [_, _, _, _, _, .dead, _]) (runOne_ok hc mixed _ _) (p9_run k r a tok ty op (rowsT l) k2 r2 a2 tok2 ty2 op2 (rowsT l2) k3 r3 a3 tok3 ty3 op3 (rowsT l3) k4 r4 a4 tok4 ty4 op4 (rowsT l4) n (rowsZ p) 0) ?_) (o := 6) (X := .row 25 7 (putRow l n (.mk k3 r3 a3 tok3 ty3 op3 l3))) rfl (.inl ⟨_, _, _, rfl⟩)
            (r' := .tu [tv (.mk k r a tok ty op (l.set n (.mk k3 r3 a3 tok3 ty3 op3 l3))), I 0]) ?_ (List.length_map ..) all_dead) (und_y _ _)
          · refine ac (andt (andt (nle ?_) rfl) (andt (andt (andt ?_ (nle ?_)) (nle ?_)) rfl)) (ac (andt (andt (nle ?_) (ble_self _)) rfl) (ac (dec_true.2 (wrap64 (by omega) (by omega))) (ac (andt (andt (nle ?_) (nle ?_)) rfl) (ac (dec_true.2 ⟨Nat.zero_le _, rfl, by rw [rowsT_len]; omega⟩) (ac rfl (ac (by simp [AV.pure, pureVals, pure_rowsT]) (ac (dec_true.2 (by rw [take1])) (ac (by rw [take1]; simp [AV.pure, pureVals, pure_rowsZ, pure_rowsT]) (ac (andt (ble_self _) rfl) (ac (d_rowT hk) (ac (nge2 hk) (ac rfl (ac (dec_true.2 rfl) (ac rfl rfl))))))))))))))
            · simp [rowsT_len]
            · have h1 := rowsOne_rowsT l
              simp only [rowsOne] at h1 ⊢
              rw [List.all_eq_true] at h1 ⊢
              exact fun q hq => h1 q (List.mem_of_mem_drop (List.mem_of_mem_take hq))
            · have := putLen_len hil; unfold putLen at this; rw [this]; omega
            · have := putLen_len hil; unfold putLen at this; rw [this]; omega
            · rw [rowsT_len]; omega
            · rw [hlt]; omega
            · rw [hlt]; omega
          · have := Frz.sr0 (o := 6) (n := putLen l n) (X := .row 25 7 (putRow l n (.mk k3 r3 a3 tok3 ty3 op3 l3))) (T := 25) (S := 7) rfl (by rw [putRow_eq hil]; exact putLen_eq hil)
            rw [putRow_eq hil] at this ⊢
            exact Frz.tu (.cons (Frz.ag (.cons (.same _) (.cons (.same _) (.cons (.same _) (.cons (.same _) (.cons (.same _) (.cons (.same _) (.cons this .nil)))))))) (.cons (.same _) .nil))
    · rw [putR_neg h0]
      exact aret_weak (aret_fin (aret_of_run (obs := [_, _, _]) (runOne_ok base_ok mixed _ _) (p9_neg k r a tok ty op (rowsT l) k4 r4 a4 tok4 ty4 op4 (rowsT l4) i (rowsZ p)) (ac (by simp; omega) (ac (dec_true.2 rfl) (ac rfl rfl)))) (und_z 4)) (weak_zero 4)
theorem put10z : ∀ (p : List Int) (t x : Tr), size t ≤ 100000 → p.length ≤ 9223372036854775807 → ARet Tryz.prog 10 [tv t, .sl 1 (rowsZ p), tv x] [] [] (.tu [tv (putR t p x).1, I (putR t p x).2]) []
  | [], .mk k r a tok ty op l, .mk k4 r4 a4 tok4 ty4 op4 l4, _, _ =>
    aret_fin (aret_of_run (obs := [_, _, _]) (runOne_ok base_ok mixed _ _) (p10_nil k r a tok ty op (rowsT l) k4 r4 a4 tok4 ty4 op4 (rowsT l4)) rfl) (und_y _ _)
  | i :: p, .mk k r a tok ty op l, .mk k4 r4 a4 tok4 ty4 op4 l4, hs, hp => by
    rw [rowsZ_cons]
    by_cases h0 : 0 ≤ i
    · obtain ⟨n, rfl⟩ : ∃ n : Nat, i = n := ⟨i.toNat, by omega⟩
      cases hk : l[n]? with
      | none =>
        rw [putR_far (t := .mk k r a tok ty op l) hk]
        exact aret_weak (aret_fin (aret_of_run (obs := [_, _, _]) (runOne_ok base_ok mixed _ _) (p10_far k r a tok ty op (rowsT l) k4 r4 a4 tok4 ty4 op4 (rowsT l4) n (rowsZ p)) (ac (by simp [rowsT_len]; exact List.getElem?_eq_none_iff.1 hk) (ac (dec_true.2 rfl) (ac (by simp) (ac (dec_true.2 rfl) (ac rfl rfl)))))) (und_z 4)) (weak_zero 4)
      | some u =>
        have hsz : size u ≤ 100000 := by have := size_kid hk; simp only [size] at hs; omega
        have hp' : p.length ≤ 9223372036854775807 := by simp at hp; omega
        have hll : l.length ≤ 100000 := by have := length_sizes l; simp only [size] at hs; omega
        have hil : n < l.length := (List.getElem?_eq_some_iff.1 hk).1
        have ih := put10z p u (.mk k4 r4 a4 tok4 ty4 op4 l4) hsz hp'
        unfold putR at ih
        cases hq : putZ u p (.mk k4 r4 a4 tok4 ty4 op4 l4) with
        | none =>
          rw [hq] at ih
          rw [putR_bad (t := .mk k r a tok ty op l) hk hq]
          have hc := callPZ_ok ih rfl
          obtain ⟨k2, r2, a2, tok2, ty2, op2, l2⟩ := u
          exact aret_weak (aret_fin (aret_of_run (obs := [_, _, _, _]) (runOne_ok hc mixed _ _) (p10_bad k r a tok ty op (rowsT l) k2 r2 a2 tok2 ty2 op2 (rowsT l2) 0 0 0 0 0 false (rowsT []) k4 r4 a4 tok4 ty4 op4 (rowsT l4) n (rowsZ p) 4)
            (ac rfl (ac (by simp [AV.pure, pureVals, pure_rowsT]) (ac (dec_true.2 (by rw [take1])) (ac (by rw [take1]; simp [AV.pure, pureVals, pure_rowsZ, pure_rowsT]) (ac (andt (ble_self _) rfl) (ac (d_rowT hk) (ac (dec_true.2 rfl) (ac (nge2 hk) (ac (dec_true.2 rfl) (ac rfl (ac (dec_true.2 rfl) (ac rfl rfl))))))))))))) (und_z 4)) (weak_zero 4)
        | some v =>
          rw [hq] at ih
          rw [putR_ok (t := .mk k r a tok ty op l) hk hq]
          have hc := callPZ_ok ih rfl
          obtain ⟨k3, r3, a3, tok3, ty3, op3, l3⟩ := v
          obtain ⟨k2, r2, a2, tok2, ty2, op2, l2⟩ := u
          obtain ⟨u0, l0, rfl⟩ : ∃ u0 l0, l = u0 :: l0 := by
            cases l with
            | nil => simp at hil
            | cons a l => exact ⟨a, l, rfl⟩
          have hset : (rowsT (u0 :: l0)).set n (cells (.mk k3 r3 a3 tok3 ty3 op3 l3)) = rowsT ((u0 :: l0).set n (.mk k3 r3 a3 tok3 ty3 op3 l3)) := by simp only [rowsT_map, List.map_set]
          have hrun := p10_run k r a tok ty op (cells u0) (rowsT l0) k2 r2 a2 tok2 ty2 op2 (rowsT l2) k3 r3 a3 tok3 ty3 op3 (rowsT l3) k4 r4 a4 tok4 ty4 op4 (rowsT l4) n (rowsZ p) 0
          rw [show (cells u0 :: rowsT l0) = rowsT (u0 :: l0) from rfl] at hrun
          rw [show ([AV.v (Value.int IntKind.i8 k3), I r3, I a3, I tok3, I ty3, B op3, AV.sl 7 (rowsT l3)] : List AV) = cells (.mk k3 r3 a3 tok3 ty3 op3 l3) from rfl, hset] at hrun
          refine aret_fin (aret_frz (aret_of_run (obs := [_, _, _, _, _]) (runOne_ok hc mixed _ _) hrun ?_) (o := 4) (X := .row 25 7 (rowsT ((u0 :: l0).set n (.mk k3 r3 a3 tok3 ty3 op3 l3)))) rfl (.inl ⟨_, _, _, rfl⟩)
            (r' := .tu [tv (.mk k r a tok ty op ((u0 :: l0).set n (.mk k3 r3 a3 tok3 ty3 op3 l3))), I 0]) ?_ (List.length_map ..) all_dead) (und_y _ _)
          · refine ac (andt (andt (dec_true.2 (by omega)) (andt (dec_true.2 (by omega)) (d_rowT hk))) rfl) (ac (nle (by rw [rowsT_len]; omega)) (ac (dec_true.2 rfl) (ac (andt (andt (andt (rowsOne_rowsT _) (nle (by rw [rowsT_len]; omega))) (nle (by rw [rowsT_len]; omega))) rfl) (ac rfl (ac (by simp [AV.pure, pureVals, pure_cells]) (ac (dec_true.2 (by rw [take1])) (ac (by rw [take1]; simp [AV.pure, pureVals, pure_rowsZ, pure_rowsT]) (ac (andt (ble_self _) rfl) (ac (d_rowT hk) (ac (dec_true.2 rfl) (ac (nge2 hk) (ac (dec_true.2 rfl) (ac rfl (ac (dec_true.2 rfl) (ac rfl rfl)))))))))))))))
          · have := Frz.sr0 (o := 4) (n := 0 + (rowsT (u0 :: l0)).length) (X := .row 25 7 (rowsT ((u0 :: l0).set n (.mk k3 r3 a3 tok3 ty3 op3 l3)))) (T := 25) (S := 7) rfl (by rw [rowsT_len, rowsT_len, List.length_set]; omega)
            exact Frz.tu (.cons (Frz.ag (.cons (.same _) (.cons (.same _) (.cons (.same _) (.cons (.same _) (.cons (.same _) (.cons (.same _) (.cons this .nil)))))))) (.cons (.same _) .nil))
    · rw [putR_neg h0]
      exact aret_weak (aret_fin (aret_of_run (obs := [_, _, _]) (runOne_ok base_ok mixed _ _) (p10_neg k r a tok ty op (rowsT l) k4 r4 a4 tok4 ty4 op4 (rowsT l4) i (rowsZ p)) (ac (by simp; omega) (ac (dec_true.2 rfl) (ac rfl rfl)))) (und_z 4)) (weak_zero 4)
end Go.Proofs.YtobehholoenaiaaGreatDoor
