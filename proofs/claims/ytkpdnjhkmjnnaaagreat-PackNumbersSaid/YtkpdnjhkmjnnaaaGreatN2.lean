/- The statement PackNumbers is proved: for every number, and any bytes behind it, the law returns true, and its arguments read behind the call as they read before. No conditions but the statement's own. -/
import Derived.Test.YtkpdnjhkmjnnaaaGreatN1
import Derived.Test.YtkpdnjhkmjnnaaaGreatAmV
import Derived.WalkKit
import Derived.ProofKit
import Derived.OpenShut
import Derived.Deep.DeepHandedRow
import Derived.ChangeSlices
import Derived.LaidLaws
namespace Go.Proofs.YtkpdnjhkmjnnaaaGreat
open Go.ChangeShapes Go.WideShapes Go.ChangeAt Go.RowKit Go.Am

theorem run_zero (more : List (List AV)) : callN 5 [.v (.int .u64 0), .sl 1 more] .e 0 ⟨0, [false, false, false, false, false, false, true, false, false, true, true, true, true, true, true, true, true], []⟩ = .ret (.v (.bool true)) .e 0 ⟨0, [true],
    [true, true, true, true, true, true, true, true, true, true, Nat.blt 0 (1 + more.length), !decide ((0 : Int) ≥ ((1 + more.length : Nat) : Int)), rowsOne more && Nat.ble ((1 + more.length) * 1) 140737488355328 && Nat.ble (1 + more.length) 9223372036854775807, true, true, true, true, true, true, true]⟩ := by kernel_rfl
theorem num_ret (n : Nat) (more : List (List AV)) (hn : n < 2 ^ 64) (hone : rowsOne more = true) (hmore : more.length < 140737488355000) : ARet Tryz.prog 5 [.v (.int .u64 (n : Int)), .sl 1 more] [] [] (.v (.bool true)) [] := by
  by_cases h0 : n = 0
  · subst h0
    refine ret_of_run callN_ok (run_zero more) (allT_of fun b hb => ?_)
    simp only [List.mem_cons, List.not_mem_nil, or_false] at hb
    rcases hb with rfl | rfl | rfl | rfl | rfl | rfl | rfl | rfl | rfl | rfl | rfl | rfl | rfl | rfl | rfl | rfl | rfl | rfl | rfl | rfl <;> first
      | rfl
      | exact Nat.ble_eq_true_of_le (by omega)
      | exact b_nge (m := 0) (by omega)
      | (simp only [hone, Bool.true_and, Bool.and_eq_true]; exact ⟨Nat.ble_eq_true_of_le (by omega), Nat.ble_eq_true_of_le (by omega)⟩)
  · by_cases hb : 9223372036854775808 ≤ n
    · refine ret_of_run callN_ok (run_big n more) ?_
      have h1 : decide ((n : Int) ≥ 9223372036854775808) = true := decide_eq_true (by omega)
      have h2 : ((n : Int).fdiv (2 ^ 63) != 0) = true := by
        rw [Int.fdiv_eq_ediv_of_nonneg _ (by decide)]
        rw [show ((2 : Int) ^ 63) = ((9223372036854775808 : Nat) : Int) from by decide, ← Int.natCast_ediv]
        have : 0 < n / 9223372036854775808 := Nat.div_pos hb (by decide)
        simp only [bne_iff_ne, ne_eq]
        omega
      simp only [allT, h1, h2]
      rfl
    · have e0 : (128 : Nat) ^ 0 = 1 := by decide
      have e1 : (128 : Nat) ^ 1 = 128 := by decide
      have e2 : (128 : Nat) ^ 2 = 16384 := by decide
      have e3 : (128 : Nat) ^ 3 = 2097152 := by decide
      have e4 : (128 : Nat) ^ 4 = 268435456 := by decide
      have e5 : (128 : Nat) ^ 5 = 34359738368 := by decide
      have e6 : (128 : Nat) ^ 6 = 4398046511104 := by decide
      have e7 : (128 : Nat) ^ 7 = 562949953421312 := by decide
      have e8 : (128 : Nat) ^ 8 = 72057594037927936 := by decide
      have e9 : (128 : Nat) ^ 9 = 9223372036854775808 := by decide
      by_cases c1 : n < 128
      · exact ret_of_run callN_ok (run1 n more) (asks_true (k := 1) (by omega) (by omega) (by omega) (by omega) hone hmore)
      by_cases c2 : n < 16384
      · exact ret_of_run callN_ok (run2 n more) (asks_true (k := 2) (by omega) (by omega) (by simp only [Nat.add_one_sub_one]; omega) (by omega) hone hmore)
      by_cases c3 : n < 2097152
      · exact ret_of_run callN_ok (run3 n more) (asks_true (k := 3) (by omega) (by omega) (by simp only [Nat.add_one_sub_one]; omega) (by omega) hone hmore)
      by_cases c4 : n < 268435456
      · exact ret_of_run callN_ok (run4 n more) (asks_true (k := 4) (by omega) (by omega) (by simp only [Nat.add_one_sub_one]; omega) (by omega) hone hmore)
      by_cases c5 : n < 34359738368
      · exact ret_of_run callN_ok (run5 n more) (asks_true (k := 5) (by omega) (by omega) (by simp only [Nat.add_one_sub_one]; omega) (by omega) hone hmore)
      by_cases c6 : n < 4398046511104
      · exact ret_of_run callN_ok (run6 n more) (asks_true (k := 6) (by omega) (by omega) (by simp only [Nat.add_one_sub_one]; omega) (by omega) hone hmore)
      by_cases c7 : n < 562949953421312
      · exact ret_of_run callN_ok (run7 n more) (asks_true (k := 7) (by omega) (by omega) (by simp only [Nat.add_one_sub_one]; omega) (by omega) hone hmore)
      by_cases c8 : n < 72057594037927936
      · exact ret_of_run callN_ok (run8 n more) (asks_true (k := 8) (by omega) (by omega) (by simp only [Nat.add_one_sub_one]; omega) (by omega) hone hmore)
      · exact ret_of_run callN_ok (run9 n more) (asks_true (k := 9) (by omega) (by omega) (by simp only [Nat.add_one_sub_one]; omega) (by omega) hone hmore)

theorem own : ownKnob Tryz.prog.godebug = none := by kernel_rfl
theorem kids : kidsB Tryz.prog = true := by kernel_rfl
theorem u33 : Tryz.prog.underlying 33 = some (.int .u64) := by kernel_rfl
theorem u29 : Tryz.prog.underlying 29 = some (.slice 5) := by kernel_rfl
theorem u5 : Tryz.prog.underlying 5 = some (.int .u8) := by kernel_rfl
theorem c5 : Tryz.prog.cellsOf 5 = 1 := by kernel_rfl
theorem b5 : Tryz.prog.bytesOf 5 = 1 := by kernel_rfl
theorem u4 : Tryz.prog.underlying 4 = some .bool := by kernel_rfl
theorem rows_bytes {m : Mem} {γ : Gam} {b : Nat} : ∀ (zs : List Int) (off : Nat), (∀ i, i < zs.length → m ⟨b, off + i, none⟩ = some (.int .u8 (zs.getD i 0))) → RepRows m γ 1 (zs.map fun z => [.v (.int .u8 z)]) b off
  | [], off, _ => by simp [RepRows]
  | z :: zs, off, h => by
    simp only [List.map_cons, RepRows, RepCells]
    refine ⟨rfl, ⟨⟨_, by simpa using h 0 (by simp), by simp [Rep]⟩, trivial⟩, rows_bytes zs (off + 1) fun i hi => ?_⟩
    have := h (i + 1) (by simp; omega)
    rw [show off + 1 + i = off + (i + 1) from by omega, this]
    simp
theorem bytes_rep {H : Type} {enc : TypeId × Value → H} {P : Program} {W : World} {base : Nat} {t e : TypeId} {v : Value} {d : DataW H} {p : List MemPlace} (ht : P.underlying t = some (.slice e)) (he : P.underlying e = some (.int .u8)) (hc : P.cellsOf e = 1)
    (hval : Value.okWide P W .any base t v) (h : DataW.Trod enc P W 0 (fun _ => true) true t v d p) :
    ∃ zs : List Int, Rep (fun a => W.cell? a) (fun _ => none) (.sl 1 (zs.map fun z => [.v (.int .u8 z)])) v ∧ ((d = .nil ∧ zs = []) ∨ ∃ sp, d = .slice (lits .u8 zs) sp) := by
  obtain ⟨a1, len, cap, rfl⟩ := okWide_slice ht hval
  obtain ⟨fuel, hf⟩ := h
  rcases open_ints ht he hc hf with ⟨hcs, hx⟩ | ⟨a, len', cap', zs, hcs, _, hl, hm, hz, hx, hcell, hwz⟩
  · simp [Value.cells] at hcs
    obtain ⟨rfl, rfl, rfl⟩ := hcs
    simp only [Prod.mk.injEq] at hx
    obtain ⟨rfl, rfl⟩ := hx
    exact ⟨[], by simp only [Rep]; exact ⟨none, 0, 0, rfl, rfl, Nat.le_refl _, .inl rfl⟩, .inl ⟨rfl, rfl⟩⟩
  · simp [Value.cells] at hcs
    obtain ⟨rfl, rfl, rfl⟩ := hcs
    simp only [Prod.mk.injEq] at hx
    obtain ⟨rfl, rfl⟩ := hx
    simp only [if_true] at hz
    have hlen : (zs.take len).length = len := by simp; omega
    refine ⟨zs.take len, ?_, .inr ⟨_, rfl⟩⟩
    simp only [Rep]
    refine ⟨some a, len, cap, rfl, by rw [List.length_map, hlen], hl, ?_⟩
    by_cases h0 : len = 0
    · left; rw [h0]; rfl
    · right
      obtain ⟨ab, ao, spot⟩ := a
      have hspot : spot = none := by simpa [Addr.add] using World.cell?_spot (hcell 0 (by omega))
      subst hspot
      refine ⟨ab, ao, rfl, rows_bytes _ _ fun i hi => ?_⟩
      rw [hlen] at hi
      have hci := hcell i (by omega)
      rw [Addr.add_lit] at hci
      rw [hci, List.getD_eq_getElem?_getD, List.getD_eq_getElem?_getD, List.getElem?_take, if_pos hi]
theorem rowsOne_bytes (zs : List Int) : rowsOne (zs.map fun z => [AV.v (.int .u8 z)]) = true := by
  induction zs with
  | nil => rfl
  | cons z zs ih =>
    simp only [rowsOne, List.map_cons, List.all_cons, Bool.and_eq_true] at ih ⊢
    exact ⟨by simp [AV.one], ih⟩

set_option maxRecDepth 100000 in
theorem num_contract (H : Type) (enc : TypeId × Value → H) (W : World) (base : Nat) (args : Array Value) (ds gs : List (DataW H)) (before : List MemPlace)
    (hval : ∀ (j : Nat) t v, Tryz.f5.params[j]? = some t → args[j]? = some v → Value.okWide Tryz.prog W .any base t v)
    (hW : DataW.Whole enc Tryz.prog Tryz.f5.params.toList Rows.packNumbersSpec.vars false W args.toList ds gs before)
    (hz : (DataW.weightsEach Tryz.prog (Tryz.f5.params.toList ++ Rows.packNumbersSpec.plain.varTypes Tryz.prog) (ds ++ gs)).all (· ≤ reachBytes) = true) :
    Calls Tryz.prog 5 args W fun e W' => ∃ v, e = .returned v ∧ Rows.packNumbersSpec.post enc Tryz.prog Tryz.f5 false true false false W args v W' := by
  have hW' := hW
  obtain ⟨p, q, hA, hV, rfl, hfz, hnd⟩ := hW
  have hA' : DataW.TrodAll enc Tryz.prog W 0 (fun _ => true) true Tryz.f5.params.toList args.toList ds p := hA
  rw [Tryz.params5] at hA' hval hz
  obtain ⟨v0, vs0, d0, ds0, p0, q0, hargs, rfl, rfl, h0, r0⟩ := trodAll_cons hA'
  obtain ⟨v1, vs1, d1, ds1, p1, q1, rfl, rfl, rfl, h1, r1⟩ := trodAll_cons r0
  obtain ⟨rfl, rfl, rfl⟩ := trodAll_nil r1
  obtain rfl : args = #[v0, v1] := by cases args; simp_all
  obtain ⟨x, rfl, rfl, rfl, hx⟩ := open_int u33 (hval 0 33 v0 rfl rfl) h0
  obtain ⟨zs, hr, hd⟩ := bytes_rep u29 u5 c5 (hval 1 29 v1 rfl rfl) h1
  have hxr : 0 ≤ x ∧ x ≤ 18446744073709551615 := by simpa [Lit.wf, IntKind.min, IntKind.max, IntKind.signed, IntKind.bits] using hx
  obtain ⟨n, rfl⟩ : ∃ n : Nat, x = (n : Int) := ⟨x.toNat, by omega⟩
  have hlen : zs.length < 140737488355000 := by
    rcases hd with ⟨_, rfl⟩ | ⟨sp, rfl⟩
    · simp
    · have : (DataW.weightsEach Tryz.prog [33, 29] [DataW.lit (.int .u64 (n : Int)), DataW.slice (lits (H := H) .u8 zs) sp]).all (· ≤ reachBytes) = true := by
        obtain ⟨rfl, rfl⟩ := trodVars_none hV
        rw [show Rows.packNumbersSpec.plain.varTypes Tryz.prog = [] from rfl] at hz
        simpa using hz
      simp only [DataW.weightsEach, DataW.weights, u29, List.nil_append, List.append_nil, List.all_cons, Bool.and_eq_true, decide_eq_true_eq, b5, Nat.mul_one] at this
      have h2 := this.1
      have h3 : (lits (H := H) .u8 zs).length = zs.length := by simp [lits]
      unfold reachBytes at h2
      omega
  refine (calls_of_aret (num_ret n (zs.map fun z => [.v (.int .u8 z)]) (by omega) (rowsOne_bytes zs) (by simpa using hlen)) W (vs := [.int .u64 n, v1]) ⟨_, _, rfl, rfl, _, _, rfl, hr, rfl⟩).mono fun e W' ⟨he, hk⟩ => ?_
  subst he
  exact ⟨_, rfl, post_true hW' hk kids (by kernel_rfl) rfl (tb := 4) (by kernel_rfl) u4 rfl rfl rfl⟩

noncomputable def settled (os : Os) : World := World.holding Tryz.prog os ⟨#[], #[], []⟩
theorem num_laid (os : Os) : laidMet Tryz.prog Rows.packNumbersRow.laid ((settled os).forCall (fun _ _ => 0) ⟨#[], #[.int .u64 0, .slice none 0 0], []⟩).memory :=
  laidMet_of_run' 8 (by kernel_rfl) (by kernel_rfl)
theorem num_reads (os : Os) {H : Type} (enc : TypeId × Value → H) : ∃ places, DataW.whole enc Tryz.prog ((settled os).forCall (fun _ _ => 0) ⟨#[], #[.int .u64 0, .slice none 0 0], []⟩).memory Tryz.f5.params.toList Rows.packNumbersSpec.vars false #[Value.int .u64 0, .slice none 0 0].toList 8 = some ([.lit (.int .u64 0), .nil], [], places) :=
  ⟨[], by kernel_rfl⟩
set_option maxRecDepth 100000 in
theorem num_lifted (os : Os) (started : os.Started) (H : Type) (enc : TypeId × Value → H) (F : Stop.Interp) :
    ReturnsInHanded {} Tryz.checked os 5 .any ((OpenSpec.ofChange Rows.packNumbersSpec).preRow enc Tryz.prog Tryz.f5 Rows.packNumbersRow.domain false Rows.packNumbersRow.laid) (((OpenSpec.ofChange Rows.packNumbersSpec).at F).post enc Tryz.prog Tryz.f5 false true false false) := by
  obtain ⟨places, hx⟩ := num_reads os enc
  refine returnsInHanded_of_row (C := Tryz.checked) (s := OpenSpec.ofChange Rows.packNumbersSpec) own started (by kernel_rfl) Tryz.func5
    (witness_row_at (enc := enc) (C := Tryz.checked) false (settled os) #[.int .u64 0, .slice none 0 0] rfl (by kernel_rfl) (by kernel_rfl) (by kernel_rfl)
      (OpenSpec.preRow_of_cond 8 hx (by kernel_rfl) (fun k hk => by cases hk) (by kernel_rfl) (num_laid os))) ?_
  intro W base args ds gs before hval hW _ _ hz hL _ _
  exact num_contract H enc W base args ds gs before hval hW hz
theorem packNumbers_holds : Rows.PackNumbersSaid :=
  OpenClaim.holds_of_cond 5 Tryz.f5 rfl rfl rfl rfl rfl rfl rfl ⟨rfl, rfl, rfl, rfl, rfl⟩ rfl rfl rfl rfl rfl (by kernel_rfl) Tryz.func5 (by kernel_rfl)
    (of_decide_eq_true (by kernel_rfl)) (by unfold Func.isWrapper; first | (rw [if_pos (by decide +kernel)]; kernel_rfl) | (rw [if_neg (by decide +kernel)]; exact ⟨rfl, rfl⟩))
    (fun os started H enc _ F => by rw [OpenClaim.pre_eq_preRow]; exact num_lifted os started H enc F)
end Go.Proofs.YtkpdnjhkmjnnaaaGreat
