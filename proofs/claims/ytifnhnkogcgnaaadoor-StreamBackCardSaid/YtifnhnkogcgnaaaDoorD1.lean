/- utf8.DecodeRune and units.At at any bytes: the size that they tell is from 1 to 4. -/
import Derived.Test.YtifnhnkogcgnaaaDoorD0
namespace Go.Proofs.YtifnhnkogcgnaaaDoor
open Go.Am
/-- a pair of a number and a size from 1 to 4 -/
def Sized (f : FuncId) (args : List AV) : Prop := ∃ (u : Int) (n : Nat), 1 ≤ n ∧ n ≤ 4 ∧ ARet Tryd.prog f args [] [] (.tu [.v (.int .i32 u), .v (.int .i64 n)]) []
open Classical in
noncomputable def unitOf (f : FuncId) (args : List AV) : Int := if h : Sized f args then h.choose else 0
open Classical in
noncomputable def sizeOf' (f : FuncId) (args : List AV) : Nat := if h : Sized f args then h.choose_spec.choose else 0
theorem sized_spec {f : FuncId} {args : List AV} (h : Sized f args) : 1 ≤ sizeOf' f args ∧ sizeOf' f args ≤ 4 ∧ ARet Tryd.prog f args [] [] (.tu [.v (.int .i32 (unitOf f args)), .v (.int .i64 (sizeOf' f args))]) [] := by
  unfold sizeOf' unitOf
  rw [dif_pos h, dif_pos h]
  exact h.choose_spec.choose_spec
noncomputable def pairOf (f : FuncId) (args : List AV) : AV := .tu [.v (.int .i32 (unitOf f args)), .v (.int .i64 (sizeOf' f args))]

theorem pair_ok {f : FuncId} (args : List AV) (h : Sized f args ∧ pureVals args = true) : ARet Tryd.prog f args [] [] (pairOf f args) [] ∧ pureVals args = true ∧ (pairOf f args).pure = true := ⟨(sized_spec h.1).2.2, h.2, rfl⟩
theorem pure_bytes : ∀ bs : List Nat, pureRows (rowsB bs) = true
  | [] => rfl
  | b :: bs => by
    have := pure_bytes bs
    simp only [rowsB] at this
    simp [rowsB, pureRows, pureVals, AV.pure, this]
theorem pure_arg (bs : List Nat) : pureVals [.sl 1 (rowsB bs)] = true := by simp [pureVals, AV.pure, pure_bytes]
def SizedP (f : FuncId) (args : List AV) : Prop := Sized f args ∧ pureVals args = true
noncomputable def base : CallF := runFn Tryd.prog (fun _ => false) 3000 60
theorem base_ok : CallOk Tryd.prog base := runFn_ok mixed _ _ _
noncomputable def call52 : CallF := runOne Tryd.prog (fun _ => false) 3000 (known1 53 (SizedP 53) (pairOf 53) base)
theorem call52_ok : CallOk Tryd.prog call52 := runOne_ok (known1_ok pair_ok base_ok) mixed _ _
theorem dec_ascii (b0 : Nat) (rest : List (List AV)) : call52 52 [.sl 1 ([AV.v (.int .u8 (b0 : Int))] :: rest)] .e 0 ⟨0, [.b true, .b true, .b true], []⟩ = .ret (.tu [.v (.int .i32 (IntKind.i32.wrap b0)), .v (.int .i64 (1 : Nat))]) .e 0 ⟨0, [.b true], [decide ((b0 : Int) < 128), decide ((0 : Int) < ((rest.length + 1 : Nat) : Int))]⟩ := by kernel_rfl
theorem dec_slow (b0 : Nat) (rest : List (List AV)) : call52 52 [.sl 1 ([AV.v (.int .u8 (b0 : Int))] :: rest)] .e 0 ⟨0, [.b true, .b false, .b true], []⟩ = .ret (pairOf 53 [.sl 1 ([AV.v (.int .u8 (b0 : Int))] :: rest)]) .e 0 ⟨0, [.b true], [dec (SizedP 53 [.sl 1 ([AV.v (.int .u8 (b0 : Int))] :: rest)]), !decide ((b0 : Int) < 128), decide ((0 : Int) < ((rest.length + 1 : Nat) : Int))]⟩ := by kernel_rfl
theorem dec_sized (b0 : Nat) (h0 : b0 < 256) (bs : List Nat) : Sized 52 [.sl 1 (rowsB (b0 :: bs))] := by
  by_cases h : b0 < 128
  · exact ⟨_, 1, by decide, by decide, ret_of_run call52_ok (dec_ascii b0 (rowsB bs)) (ac (decide_eq_true (by omega)) (ac (decide_eq_true (by omega)) rfl))⟩
  · have h1 : Sized 53 [.sl 1 (rowsB (b0 :: bs))] := slow_good b0 h0 bs
    obtain ⟨g1, g2, _⟩ := sized_spec h1
    exact ⟨_, _, g1, g2, ret_of_run call52_ok (dec_slow b0 (rowsB bs)) (ac (dec_true.2 ⟨h1, pure_arg (b0 :: bs)⟩) (ac (nd (by omega)) (ac (decide_eq_true (by omega)) rfl)))⟩

noncomputable def call50 : CallF := runOne Tryd.prog (fun _ => false) 3000 (known1 52 (SizedP 52) (pairOf 52) base)
theorem call50_ok : CallOk Tryd.prog call50 := runOne_ok (known1_ok pair_ok base_ok) mixed _ _
def cut (rows : List (List AV)) (at' : Nat) : List AV := [.sl 1 ((rows.drop at').take (rows.length - at'))]
noncomputable def runAt (rows : List (List AV)) (at' : Nat) (gd : List Gi) : CR := call50 50 [.sl 1 rows, .v (.int .i64 (at' : Int))] .e 0 ⟨0, gd, []⟩
theorem at_bad (at' : Nat) (rows : List (List AV)) (b : Nat) : runAt rows at' [.b false, .b false, .b true, .b true, .row [.v (.int .u8 (b : Int))], .b true] = .ret (.tu [.v (.int .i32 (getU (runAt rows at' [.b false, .b false, .b true, .b true, .row [.v (.int .u8 (b : Int))], .b true]))), .v (.int .i64 (1 : Nat))]) .e 0 ⟨0, [.b true],
    [dec (rows[at']? = some [.v (.int .u8 (b : Int))]), decide ((sizeOf' 52 (cut rows at') : Int) ≤ 1), unitOf 52 (cut rows at') == 65533, dec (SizedP 52 (cut rows at')), Nat.ble at' rows.length && Nat.ble rows.length rows.length && true, !decide ((at' : Int) ≥ (rows.length : Int)), true]⟩ := by kernel_rfl
theorem at_same (at' : Nat) (rows : List (List AV)) : runAt rows at' [.b false, .b false, .b true, .b false, .b true] = .ret (pairOf 52 (cut rows at')) .e 0 ⟨0, [.b true],
    [!decide ((sizeOf' 52 (cut rows at') : Int) ≤ 1), unitOf 52 (cut rows at') == 65533, dec (SizedP 52 (cut rows at')), Nat.ble at' rows.length && Nat.ble rows.length rows.length && true, !decide ((at' : Int) ≥ (rows.length : Int)), true]⟩ := by kernel_rfl
theorem at_good (at' : Nat) (rows : List (List AV)) : runAt rows at' [.b false, .b false, .b false, .b true] = .ret (pairOf 52 (cut rows at')) .e 0 ⟨0, [.b true],
    [!(unitOf 52 (cut rows at') == 65533), dec (SizedP 52 (cut rows at')), Nat.ble at' rows.length && Nat.ble rows.length rows.length && true, !decide ((at' : Int) ≥ (rows.length : Int)), true]⟩ := by kernel_rfl
theorem cut_eq (bs : List Nat) (at' : Nat) : cut (rowsB bs) at' = [.sl 1 (rowsB (bs.drop at'))] := by
  unfold cut rowsB
  rw [← List.map_drop, List.take_of_length_le (by simp)]
theorem at_sized (bs : List Nat) (hb : ∀ b ∈ bs, b < 256) (at' : Nat) (h : at' < bs.length) : Sized 50 [.sl 1 (rowsB bs), .v (.int .i64 (at' : Int))] := by
  have hd := List.drop_eq_getElem_cons h
  have h52 : Sized 52 (cut (rowsB bs) at') := by
    rw [cut_eq, hd]
    exact dec_sized _ (hb _ (List.getElem_mem h)) _
  have hp : SizedP 52 (cut (rowsB bs) at') := ⟨h52, by rw [cut_eq]; exact pure_arg _⟩
  have hlen : (rowsB bs).length = bs.length := by simp [rowsB]
  have hle : (Nat.ble at' (rowsB bs).length && Nat.ble (rowsB bs).length (rowsB bs).length && true) = true := by
    rw [Bool.and_true, Bool.and_eq_true]; exact ⟨Nat.ble_eq_true_of_le (by omega), Nat.ble_eq_true_of_le (Nat.le_refl _)⟩
  have hlt : (!decide ((at' : Int) ≥ ((rowsB bs).length : Int))) = true := nd (by omega)
  have hrow : (rowsB bs)[at']? = some [.v (.int .u8 ((bs[at'] : Nat) : Int))] := by simp [rowsB, h]
  obtain ⟨g1, g2, _⟩ := sized_spec h52
  cases hu : (unitOf 52 (cut (rowsB bs) at') == 65533) with
  | false => exact ⟨_, _, g1, g2, ret_of_run call50_ok (at_good at' (rowsB bs)) (ac (by rw [hu]; rfl) (ac (dec_true.2 hp) (ac hle (ac hlt rfl))))⟩
  | true =>
    by_cases hn : (sizeOf' 52 (cut (rowsB bs) at') : Int) ≤ 1
    · exact ⟨_, 1, by decide, by decide, ret_of_run call50_ok (at_bad at' (rowsB bs) bs[at']) (ac (dec_true.2 hrow) (ac (decide_eq_true hn) (ac hu (ac (dec_true.2 hp) (ac hle (ac hlt rfl))))))⟩
    · exact ⟨_, _, g1, g2, ret_of_run call50_ok (at_same at' (rowsB bs)) (ac (nd hn) (ac hu (ac (dec_true.2 hp) (ac hle (ac hlt rfl)))))⟩
end Go.Proofs.YtifnhnkogcgnaaaDoor
