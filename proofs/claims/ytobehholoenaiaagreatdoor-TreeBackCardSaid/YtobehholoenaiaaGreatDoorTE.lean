/- All places, one by one: the iterator; the law. -/
import Derived.Test.YtobehholoenaiaaGreatDoorTD
namespace Go.Proofs.YtobehholoenaiaaGreatDoor
open Go.Am
noncomputable def st7 (t x : Tr) (w : Int) : List Ob := [.box 25 (cells t), .box 25 (cells x), .box 3 [I w], .box 4 [B false], .box 3 [I 0], .box 25 (cells t), lp4 t x w]
noncomputable def call26 (k r a tok ty : Int) (op : Bool) (l : List Tr) (x : Tr) (w : Int) (fin : List Ob) : CallF := knownS 27 (aw (uu k r a tok ty op l)) (st (uu k r a tok ty op l) x w 0 nilS) (B true) fin base
theorem all_e (k r a tok ty : Int) (op : Bool) (x : Tr) (w n : Int) : outC (runOne Tryz.prog noPu 3000 (call26 k r a tok ty op [] x w (st (uu k r a tok ty op []) x w n nilS)) 26 [.yl 6, .pt 5 0] (triO (st7 (uu k r a tok ty op []) x w)) 7 ⟨7, [.b true], []⟩) =
    some (.tu [], (st (uu k r a tok ty op []) x w n nilS).map some, [dec (aw (uu k r a tok ty op []) = aw (uu k r a tok ty op []) ∧ st (uu k r a tok ty op []) x w 0 nilS = st (uu k r a tok ty op []) x w 0 nilS)]) := by kernel_rfl
theorem all_c (k r a tok ty : Int) (op : Bool) (l : List Tr) (x : Tr) (w n : Int) : outC (runOne Tryz.prog noPu 3000 (call26 k r a tok ty op l x w (stR (uu k r a tok ty op l) x (uu k r a tok ty op l) w n)) 26 [.yl 6, .pt 5 0] (triO (st7 (uu k r a tok ty op l) x w)) 7 ⟨7, [.b true], []⟩) =
    some (.tu [], (stR (uu k r a tok ty op l) x (uu k r a tok ty op l) w n).map some, [dec (aw (uu k r a tok ty op l) = aw (uu k r a tok ty op l) ∧ st (uu k r a tok ty op l) x w 0 nilS = st (uu k r a tok ty op l) x w 0 nilS)]) := by kernel_rfl
theorem all26 {t x : Tr} (w : Int) (ht : size t ≤ 300) (hx : size x ≤ 300) : FRet Tryz.prog 26 [.yl 6, .pt 5 0] (st7 t x w) (.tu []) (finR t x w t.kids) := by
  have hw := walkR w ht hx
  obtain ⟨k, r, a, tok, ty, op, l⟩ := t
  cases l with
  | nil => exact fret_of_run (runOne_ok (knownS_ok (fret_of rfl hw) base_ok) mixed _ _) (all_e k r a tok ty op x w _) (ac (dec_true.2 ⟨rfl, rfl⟩) rfl)
  | cons u l => exact fret_of_run (runOne_ok (knownS_ok (fret_of rfl hw) base_ok) mixed _ _) (all_c k r a tok ty op (u :: l) x w _) (ac (dec_true.2 ⟨rfl, rfl⟩) rfl)
theorem all17_run (k r a tok ty : Int) (op : Bool) (l : List Tr) : outC (base 17 [tv (uu k r a tok ty op l)] .e 0 ⟨0, [.b true], []⟩) = some (.fn (.func 26) [] [.pt 0 0], [bx (uu k r a tok ty op l)].map some, []) := by kernel_rfl
theorem all17 (t : Tr) : ARet Tryz.prog 17 [tv t] [] [] (.fn (.func 26) [] [.pt 0 0]) [bx t] := by
  obtain ⟨k, r, a, tok, ty, op, l⟩ := t
  exact aret_of_run base_ok (all17_run k r a tok ty op l) rfl
noncomputable def callL (t x : Tr) (w : Int) (fin : List Ob) : CallF := known1 13 (fun args => args = [tv t] ∨ args = [tv x]) (fun args => I (cntN (unT (args.headD .any)))) <| knownP 17 (fun args => args = [tv t]) (fun _ N => .fn (.func 26) [] [.pt N 0]) (fun _ _ => [bx t]) <|
  knownS 26 [.yl 6, .pt 5 0] (st7 t x w) (.tu []) fin <| known1 6 (fun args => args = []) (fun _ => B true) <| known1 12 (fun args => args = [tv t]) (fun args => I (cntN (unT (args.headD .any)))) base
end Go.Proofs.YtobehholoenaiaaGreatDoor
