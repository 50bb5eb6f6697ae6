/- utf8.DecodeRune and units.At at any bytes: the size that they tell is from 1 to 4. -/
import Derived.Test.YtifnhnkogcgnaaaDoorD0
namespace Go.Proofs.YtifnhnkogcgnaaaDoor
open Go.Am
def byteV : List AV → Nat
  | [.v (.int .u8 z)] => z.toNat
  | _ => 0
theorem byteV_rows (bs : List Nat) : (rowsB bs).map byteV = bs := by
  simp only [rowsB, List.map_map]
  conv => rhs; rw [← List.map_id bs]
  apply List.map_congr_left
  intro b _
  simp [byteV]
/-- what DecodeRune tells of bytes -/
def decP : List Nat → Int × Nat
  | c :: r => orErr (good c r)
  | [] => (65533, 0)
/-- .. and At, of units -/
def unitP : List Nat → Int × Nat
  | c :: r => match good c r with
    | some p => p
    | none => (1114112 + (c : Int), 1)
  | [] => (0, 0)
def specOf (_ : FuncId) : List AV → Int × Nat
  | [.sl _ rows] => decP (rows.map byteV)
  | [.sl _ rows, .v (.int _ a)] => unitP ((rows.map byteV).drop a.toNat)
  | _ => (0, 0)
def unitOf (f : FuncId) (args : List AV) : Int := (specOf f args).1
def sizeOf' (f : FuncId) (args : List AV) : Nat := (specOf f args).2
/-- a number and a size from 1 to 4 -/
def Sized (f : FuncId) (args : List AV) : Prop := 1 ≤ sizeOf' f args ∧ sizeOf' f args ≤ 4 ∧ ARet Tryd.prog f args [] [] (.tu [.v (.int .i32 (unitOf f args)), .v (.int .i64 (sizeOf' f args))]) []
theorem sized_spec {f : FuncId} {args : List AV} (h : Sized f args) : 1 ≤ sizeOf' f args ∧ sizeOf' f args ≤ 4 ∧ ARet Tryd.prog f args [] [] (.tu [.v (.int .i32 (unitOf f args)), .v (.int .i64 (sizeOf' f args))]) [] := h
theorem good_size {c : Nat} {r : List Nat} {p : Int × Nat} (h : good c r = some p) : 1 ≤ p.2 ∧ p.2 ≤ 4 ∧ (p.1 = 65533 → 1 < p.2) := by
  unfold good at h
  split at h
  · cases h; exact ⟨by simp, by simp, fun e => by simp at e; omega⟩
  split at h
  · unfold good2 at h
    split at h
    · split at h
      · cases h; exact ⟨by simp, by simp, fun _ => by simp⟩
      · cases h
    · cases h
  split at h
  · unfold good3 at h
    split at h
    · split at h
      · cases h; exact ⟨by simp, by simp, fun _ => by simp⟩
      · cases h
    · cases h
  split at h
  · unfold good4 at h
    split at h
    · split at h
      · cases h; exact ⟨by simp, by simp, fun _ => by simp⟩
      · cases h
    · cases h
  · cases h
noncomputable def pairOf (f : FuncId) (args : List AV) : AV := .tu [.v (.int .i32 (unitOf f args)), .v (.int .i64 (sizeOf' f args))]

theorem pair_ok {f : FuncId} (args : List AV) (h : Sized f args ∧ pureVals args = true) : ARet Tryd.prog f args [] [] (pairOf f args) [] ∧ pureVals args = true ∧ (pairOf f args).pure = true := ⟨(sized_spec h.1).2.2, h.2, rfl⟩
theorem pure_bytes : ∀ bs : List Nat, pureRows (rowsB bs) = true
  | [] => rfl
  | b :: bs => by
    have := pure_bytes bs
    simp only [rowsB] at this
    simp [rowsB, pureRows, pureVals, AV.pure, this]
theorem pure_arg (bs : List Nat) : pureVals [.sl 1 (rowsB bs)] = true := by simp [pureVals, AV.pure, pure_bytes]
def SizedP (f : FuncId) (args : List AV) : Prop := Sized f args ∧ pureVals args = true
noncomputable def base : CallF := runFn Tryd.prog (fun _ => false) 3000 60
theorem base_ok : CallOk Tryd.prog base := runFn_ok mixed _ _ _
noncomputable def call52 : CallF := runOne Tryd.prog (fun _ => false) 3000 (known1 53 (SizedP 53) (pairOf 53) base)
theorem call52_ok : CallOk Tryd.prog call52 := runOne_ok (known1_ok pair_ok base_ok) mixed _ _
theorem dec_ascii (b0 : Nat) (rest : List (List AV)) : call52 52 [.sl 1 ([AV.v (.int .u8 (b0 : Int))] :: rest)] .e 0 ⟨0, [.b true, .b true, .b true], []⟩ = .ret (.tu [.v (.int .i32 (IntKind.i32.wrap b0)), .v (.int .i64 (1 : Nat))]) .e 0 ⟨0, [.b true], [decide ((b0 : Int) < 128), decide ((0 : Int) < ((rest.length + 1 : Nat) : Int))]⟩ := by kernel_rfl
theorem dec_slow (b0 : Nat) (rest : List (List AV)) : call52 52 [.sl 1 ([AV.v (.int .u8 (b0 : Int))] :: rest)] .e 0 ⟨0, [.b true, .b false, .b true], []⟩ = .ret (pairOf 53 [.sl 1 ([AV.v (.int .u8 (b0 : Int))] :: rest)]) .e 0 ⟨0, [.b true], [dec (SizedP 53 [.sl 1 ([AV.v (.int .u8 (b0 : Int))] :: rest)]), !decide ((b0 : Int) < 128), decide ((0 : Int) < ((rest.length + 1 : Nat) : Int))]⟩ := by kernel_rfl
theorem slow_sized (b0 : Nat) (h0 : b0 < 256) (h1 : 128 ≤ b0) (bs : List Nat) : Sized 53 [.sl 1 (rowsB (b0 :: bs))] := by
  have h := slow_good b0 h0 h1 bs
  have e : specOf 53 [.sl 1 (rowsB (b0 :: bs))] = orErr (good b0 bs) := by simp only [specOf, byteV_rows, decP]
  unfold Sized sizeOf' unitOf
  rw [e]
  refine ⟨?_, ?_, h⟩
  · cases hg : good b0 bs with
    | none => decide
    | some p => exact (good_size hg).1
  · cases hg : good b0 bs with
    | none => decide
    | some p => exact (good_size hg).2.1
theorem dec_sized (b0 : Nat) (h0 : b0 < 256) (bs : List Nat) : Sized 52 [.sl 1 (rowsB (b0 :: bs))] := by
  have e : specOf 52 [.sl 1 (rowsB (b0 :: bs))] = orErr (good b0 bs) := by simp only [specOf, byteV_rows, decP]
  by_cases h : b0 < 128
  · have hg : good b0 bs = some ((b0 : Int), 1) := by unfold good; rw [if_pos h]
    unfold Sized sizeOf' unitOf
    rw [e, hg]
    refine ⟨by simp [orErr], by simp [orErr], ?_⟩
    have := ret_of_run call52_ok (dec_ascii b0 (rowsB bs)) (ac (decide_eq_true (by omega)) (ac (decide_eq_true (by omega)) rfl))
    rw [wrap_i32 (by omega) (by omega)] at this
    exact this
  · have h1 : Sized 53 [.sl 1 (rowsB (b0 :: bs))] := slow_sized b0 h0 (by omega) bs
    have h2 := h1
    unfold Sized at h2 ⊢
    refine ⟨h2.1, h2.2.1, ?_⟩
    exact ret_of_run call52_ok (dec_slow b0 (rowsB bs)) (ac (dec_true.2 ⟨h1, pure_arg (b0 :: bs)⟩) (ac (nd (by omega)) (ac (decide_eq_true (by omega)) rfl)))

noncomputable def call50 : CallF := runOne Tryd.prog (fun _ => false) 3000 (known1 52 (SizedP 52) (pairOf 52) base)
theorem call50_ok : CallOk Tryd.prog call50 := runOne_ok (known1_ok pair_ok base_ok) mixed _ _
def cut (rows : List (List AV)) (at' : Nat) : List AV := [.sl 1 ((rows.drop at').take (rows.length - at'))]
noncomputable def runAt (rows : List (List AV)) (at' : Nat) (gd : List Gi) : CR := call50 50 [.sl 1 rows, .v (.int .i64 (at' : Int))] .e 0 ⟨0, gd, []⟩
theorem at_bad (at' : Nat) (rows : List (List AV)) (b : Nat) : runAt rows at' [.b false, .b false, .b true, .b true, .row [.v (.int .u8 (b : Int))], cv b, .int (1114112 + (b : Int)), .b true] = .ret (.tu [.v (.int .i32 (1114112 + (b : Int))), .v (.int .i64 (1 : Nat))]) .e 0 ⟨0, [.b true],
    [dec (IntKind.i32.wrap (1114112 + (b : Int)) = 1114112 + (b : Int)), dec (Cv (b : Int)), dec (rows[at']? = some [.v (.int .u8 (b : Int))]), decide ((sizeOf' 52 (cut rows at') : Int) ≤ 1), unitOf 52 (cut rows at') == 65533, dec (SizedP 52 (cut rows at')), Nat.ble at' rows.length && Nat.ble rows.length rows.length && true, !decide ((at' : Int) ≥ (rows.length : Int)), true]⟩ := by kernel_rfl
theorem at_same (at' : Nat) (rows : List (List AV)) : runAt rows at' [.b false, .b false, .b true, .b false, .b true] = .ret (pairOf 52 (cut rows at')) .e 0 ⟨0, [.b true],
    [!decide ((sizeOf' 52 (cut rows at') : Int) ≤ 1), unitOf 52 (cut rows at') == 65533, dec (SizedP 52 (cut rows at')), Nat.ble at' rows.length && Nat.ble rows.length rows.length && true, !decide ((at' : Int) ≥ (rows.length : Int)), true]⟩ := by kernel_rfl
theorem at_good (at' : Nat) (rows : List (List AV)) : runAt rows at' [.b false, .b false, .b false, .b true] = .ret (pairOf 52 (cut rows at')) .e 0 ⟨0, [.b true],
    [!(unitOf 52 (cut rows at') == 65533), dec (SizedP 52 (cut rows at')), Nat.ble at' rows.length && Nat.ble rows.length rows.length && true, !decide ((at' : Int) ≥ (rows.length : Int)), true]⟩ := by kernel_rfl
theorem cut_eq (bs : List Nat) (at' : Nat) : cut (rowsB bs) at' = [.sl 1 (rowsB (bs.drop at'))] := by
  unfold cut rowsB
  rw [← List.map_drop, List.take_of_length_le (by simp)]
theorem spec50 (bs : List Nat) (a : Nat) : specOf 50 [.sl 1 (rowsB bs), .v (.int .i64 (a : Int))] = unitP (bs.drop a) := by simp only [specOf, byteV_rows]; rfl
theorem at_sized (bs : List Nat) (hb : ∀ b ∈ bs, b < 256) (at' : Nat) (h : at' < bs.length) : Sized 50 [.sl 1 (rowsB bs), .v (.int .i64 (at' : Int))] := by
  have hd := List.drop_eq_getElem_cons h
  have hbyte := hb _ (List.getElem_mem h)
  have h52 : Sized 52 (cut (rowsB bs) at') := by
    rw [cut_eq, hd]
    exact dec_sized _ hbyte _
  have e52 : specOf 52 (cut (rowsB bs) at') = orErr (good bs[at'] (bs.drop (at' + 1))) := by rw [cut_eq, hd]; simp only [specOf, byteV_rows, decP]
  have e50 : specOf 50 [.sl 1 (rowsB bs), .v (.int .i64 (at' : Int))] = unitP (bs[at'] :: bs.drop (at' + 1)) := by rw [spec50, hd]
  have hp : SizedP 52 (cut (rowsB bs) at') := ⟨h52, by rw [cut_eq]; exact pure_arg _⟩
  have hlen : (rowsB bs).length = bs.length := by simp [rowsB]
  have hle : (Nat.ble at' (rowsB bs).length && Nat.ble (rowsB bs).length (rowsB bs).length && true) = true := by
    rw [Bool.and_true, Bool.and_eq_true]; exact ⟨Nat.ble_eq_true_of_le (by omega), Nat.ble_eq_true_of_le (Nat.le_refl _)⟩
  have hlt : (!decide ((at' : Int) ≥ ((rowsB bs).length : Int))) = true := nd (by omega)
  have hrow : (rowsB bs)[at']? = some [.v (.int .u8 ((bs[at'] : Nat) : Int))] := by simp [rowsB, h]
  have h2 := h52
  unfold Sized sizeOf' unitOf at h2 ⊢
  rw [e50]
  cases hg : good bs[at'] (bs.drop (at' + 1)) with
  | none =>
    have e1 : unitP (bs[at'] :: bs.drop (at' + 1)) = (1114112 + ((bs[at'] : Nat) : Int), 1) := by simp only [unitP, hg]
    have e2 : specOf 52 (cut (rowsB bs) at') = (65533, 1) := by rw [e52, hg]; rfl
    rw [e1]
    refine ⟨by simp, by simp, ?_⟩
    exact ret_of_run call50_ok (at_bad at' (rowsB bs) bs[at']) (ac (dec_true.2 (wrap_i32 (by omega) (by omega))) (ac (dec_true.2 (cvP (by omega) (by omega))) (ac (dec_true.2 hrow) (ac (by unfold sizeOf'; rw [e2]; rfl) (ac (by unfold unitOf; rw [e2]; rfl) (ac (dec_true.2 hp) (ac hle (ac hlt rfl))))))))
  | some p =>
    obtain ⟨g1, g2, g3⟩ := good_size hg
    have e1 : unitP (bs[at'] :: bs.drop (at' + 1)) = p := by simp only [unitP, hg]
    have e2 : specOf 52 (cut (rowsB bs) at') = p := by rw [e52, hg]; rfl
    have e3 : pairOf 52 (cut (rowsB bs) at') = .tu [.v (.int .i32 p.1), .v (.int .i64 p.2)] := by unfold pairOf unitOf sizeOf'; rw [e2]
    rw [e1]
    refine ⟨g1, g2, ?_⟩
    by_cases hu : p.1 = 65533
    · have := ret_of_run call50_ok (at_same at' (rowsB bs)) (ac (nd (by unfold sizeOf'; rw [e2]; have := g3 hu; omega)) (ac (by unfold unitOf; rw [e2, hu]; rfl) (ac (dec_true.2 hp) (ac hle (ac hlt rfl)))))
      rw [e3] at this
      exact this
    · have := ret_of_run call50_ok (at_good at' (rowsB bs)) (ac (by unfold unitOf; rw [e2]; simp [hu]) (ac (dec_true.2 hp) (ac hle (ac hlt rfl))))
      rw [e3] at this
      exact this
theorem unit50 (bs : List Nat) (a : Nat) : unitOf 50 [.sl 1 (rowsB bs), .v (.int .i64 (a : Int))] = (unitP (bs.drop a)).1 ∧ sizeOf' 50 [.sl 1 (rowsB bs), .v (.int .i64 (a : Int))] = (unitP (bs.drop a)).2 := by
  unfold unitOf sizeOf'
  rw [spec50]
  exact ⟨rfl, rfl⟩
end Go.Proofs.YtifnhnkogcgnaaaDoor
