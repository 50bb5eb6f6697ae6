/- Numbers as bytes of seven bits: what the operations of Put and Number on them come to. Plain arithmetic; no program in sight. -/
import Derived.Test.YtkpdnjhkmjnnaaaGreatAmY
namespace Go.Proofs.YtkpdnjhkmjnnaaaGreat
open Go.Am
def dv : Nat → Int → Int
  | 0, x => x
  | j + 1, x => (dv j x).fdiv (2 ^ 7)
def hiB (z : Int) : Int := IntKind.u8.wrap ↑(BitVec.ofInt IntKind.u8.bits (IntKind.u8.wrap z) ||| BitVec.ofInt IntKind.u8.bits 128).toNat
def loB (z : Int) : Int := IntKind.u8.wrap z
def cB (k j : Nat) (x : Int) : Int := cond (Nat.blt (j + 1) k) (hiB (dv j x)) (loB (dv j x))
def acc (k : Nat) (x : Int) : Nat → Int
  | 0 => 0
  | j + 1 => IntKind.u64.wrap ↑(BitVec.ofInt IntKind.u64.bits (acc k x j) ||| BitVec.ofInt IntKind.u64.bits (IntKind.u64.wrap (IntKind.u64.wrap (IntKind.u8.wrap ↑(BitVec.ofInt IntKind.u8.bits (cB k j x) &&& BitVec.ofInt IntKind.u8.bits 127).toNat) * 2 ^ (7 * j)))).toNat
/-- how the comparisons turn out, at a number of k bytes -/
def guides (k : Nat) : List Bool :=
  [false] ++ ((List.range (k - 1)).map fun _ => true) ++ [false, false] ++ ((List.range (k - 1)).map fun _ => true) ++ [false, false]
  ++ ((List.range k).flatMap fun (j : Nat) => [false, false] ++ cond (Nat.blt (j + 1) k) [true, false, false] [false, true])
  ++ ((List.range (k - 1)).flatMap fun _ => [false, false, true, false, false]) ++ [true, true, true, true, true, true, true]
/-- .. and what must be true for that -/
def asks (k : Nat) (x : Int) (more : List (List AV)) : List Bool :=
  [!(x.fdiv (2 ^ 63) != 0)] ++ ((List.range (k - 1)).flatMap fun (j : Nat) => [decide (dv j x > 127), true]) ++ [!decide (dv (k - 1) x > 127), true, !decide (x ≥ 9223372036854775808)]
  ++ ((List.range (k - 1)).map fun (j : Nat) => decide (dv (j + 1) x > 0)) ++ [!decide (dv k x > 0), true, true, rowsOne more && Nat.ble ((k + more.length) * 1) 140737488355328 && Nat.ble (k + more.length) 9223372036854775807]
  ++ ((List.range k).flatMap fun (j : Nat) => [!decide ((j : Int) ≥ ((k + more.length : Nat) : Int)), Nat.blt j (k + more.length), !(cB k j x == 0)]
      ++ cond (Nat.blt (j + 1) k) [decide (cB k j x > 127), true, !decide (cB k j x < 128)] [!decide (cB k j x > 127), decide (cB k j x < 128)])
  ++ ((List.range (k - 1)).flatMap fun (j : Nat) => [true, true, !(cB k j x == 0), decide (cB k j x > 127), true, !decide (cB k j x < 128)]) ++ [true, true, acc k x k == x, true, true, true]

theorem dv_nat (n : Nat) : ∀ j, dv j (n : Int) = ((n / 128 ^ j : Nat) : Int)
  | 0 => by simp [dv]
  | j + 1 => by
    simp only [dv, dv_nat n j]
    rw [Int.fdiv_eq_ediv_of_nonneg _ (by decide)]
    rw [show ((2 : Int) ^ 7) = ((128 : Nat) : Int) from by decide, ← Int.natCast_ediv, Nat.div_div_eq_div_mul, Nat.pow_succ]
theorem wrap8 (n : Nat) : IntKind.u8.wrap (n : Int) = ((n % 256 : Nat) : Int) := by
  show ((n : Int) % (2 ^ 8 : Int)) = _
  rw [show ((2 : Int) ^ 8) = ((256 : Nat) : Int) from by decide, ← Int.natCast_emod]
theorem wrap64 (n : Nat) (h : n < 18446744073709551616) : IntKind.u64.wrap (n : Int) = (n : Int) := by
  show ((n : Int) % (2 ^ 64 : Int)) = _
  rw [show ((2 : Int) ^ 64) = ((18446744073709551616 : Nat) : Int) from by decide, ← Int.natCast_emod, Nat.mod_eq_of_lt h]
theorem or128 : ∀ b : Fin 256, b.val ||| 128 = b.val % 128 + 128 := by decide +kernel
theorem and127 : ∀ b : Fin 256, b.val &&& 127 = b.val % 128 := by decide +kernel
theorem hiB_nat (n : Nat) : hiB (n : Int) = ((n % 128 + 128 : Nat) : Int) := by
  unfold hiB
  rw [wrap8 n]
  have h1 : (BitVec.ofInt IntKind.u8.bits ((n % 256 : Nat) : Int) ||| BitVec.ofInt IntKind.u8.bits 128).toNat = n % 128 + 128 := by
    rw [BitVec.toNat_or]
    have e1 : (BitVec.ofInt IntKind.u8.bits ((n % 256 : Nat) : Int)).toNat = n % 256 := by
      simp [IntKind.bits, BitVec.toNat_ofInt]; omega
    have e2 : (BitVec.ofInt IntKind.u8.bits 128).toNat = 128 := by decide
    rw [e1, e2]
    have := or128 ⟨n % 256, Nat.mod_lt _ (by decide)⟩
    simp only at this
    rw [this]; omega
  rw [h1, wrap8, Nat.mod_eq_of_lt (by omega)]
theorem loB_nat (n : Nat) (h : n < 256) : loB (n : Int) = (n : Int) := by
  unfold loB
  rw [wrap8, Nat.mod_eq_of_lt h]
theorem and_nat (c : Nat) (h : c < 256) : IntKind.u8.wrap ↑(BitVec.ofInt IntKind.u8.bits (c : Int) &&& BitVec.ofInt IntKind.u8.bits 127).toNat = ((c % 128 : Nat) : Int) := by
  have h1 : (BitVec.ofInt IntKind.u8.bits (c : Int) &&& BitVec.ofInt IntKind.u8.bits 127).toNat = c % 128 := by
    rw [BitVec.toNat_and]
    have e1 : (BitVec.ofInt IntKind.u8.bits (c : Int)).toNat = c := by
      simp [IntKind.bits]; omega
    have e2 : (BitVec.ofInt IntKind.u8.bits 127).toNat = 127 := by decide
    rw [e1, e2]
    exact and127 ⟨c, h⟩
  rw [h1, wrap8, Nat.mod_eq_of_lt (by omega)]
theorem or_nat (a b : Nat) (ha : a < 18446744073709551616) (hb : b < 18446744073709551616) : (BitVec.ofInt IntKind.u64.bits (a : Int) ||| BitVec.ofInt IntKind.u64.bits (b : Int)).toNat = a ||| b := by
  rw [BitVec.toNat_or]
  have e : ∀ n : Nat, n < 18446744073709551616 → (BitVec.ofInt IntKind.u64.bits (n : Int)).toNat = n := by
    intro n hn
    simp [IntKind.bits]; omega
  rw [e a ha, e b hb]
section
variable {k n : Nat}
theorem cB_hi {j : Nat} (h : j + 1 < k) : cB k j (n : Int) = (((n / 128 ^ j) % 128 + 128 : Nat) : Int) := by
  have : Nat.blt (j + 1) k = true := Nat.ble_eq_true_of_le h
  simp only [cB, this, cond_true, dv_nat, hiB_nat]
theorem cB_lo {j : Nat} (h : ¬ j + 1 < k) (hn : n / 128 ^ j < 256) : cB k j (n : Int) = ((n / 128 ^ j : Nat) : Int) := by
  have : Nat.blt (j + 1) k = false := by
    cases hb : Nat.blt (j + 1) k with
    | false => rfl
    | true => simp [Nat.blt] at hb; omega
  simp only [cB, this, cond_false, dv_nat]
  rw [loB_nat _ hn]
theorem cB_low {j : Nat} (hj : j < k) (hn : n < 128 ^ k) : ∃ c, cB k j (n : Int) = ((c : Nat) : Int) ∧ c < 256 ∧ c % 128 = (n / 128 ^ j) % 128 := by
  by_cases h : j + 1 < k
  · exact ⟨_, cB_hi h, by omega, by omega⟩
  · have e : k = j + 1 := by omega
    have hd : n / 128 ^ j < 128 := by
      rw [Nat.div_lt_iff_lt_mul (Nat.pow_pos (by decide))]
      rw [e, Nat.pow_succ, Nat.mul_comm] at hn
      exact hn
    exact ⟨_, cB_lo h (by omega), by omega, rfl⟩
theorem pow7 (j : Nat) : (2 : Nat) ^ (7 * j) = 128 ^ j := by rw [Nat.pow_mul]
theorem acc_nat (hk : k ≤ 9) (hn : n < 128 ^ k) : ∀ j, j ≤ k → acc k (n : Int) j = ((n % 128 ^ j : Nat) : Int)
  | 0, _ => by simp [acc, Nat.mod_one]
  | j + 1, hj => by
    have ih := acc_nat hk hn j (by omega)
    obtain ⟨c, h1, h2, h3⟩ := cB_low (n := n) (show j < k by omega) hn
    have hp : 128 ^ (j + 1) ≤ 128 ^ 9 := Nat.pow_le_pow_right (by decide) (by omega)
    have hps : (128 : Nat) ^ (j + 1) = 128 ^ j * 128 := Nat.pow_succ ..
    have h9 : (128 : Nat) ^ 9 = 9223372036854775808 := by decide
    have hpos : 0 < (128 : Nat) ^ j := Nat.pow_pos (by decide)
    have hm : n % 128 ^ j < 128 ^ j := Nat.mod_lt _ hpos
    have hd : n / 128 ^ j % 128 < 128 := Nat.mod_lt _ (by decide)
    have hmul : (n / 128 ^ j % 128) * 128 ^ j < 128 ^ j * 128 := by
      rw [Nat.mul_comm]; exact Nat.mul_lt_mul_of_pos_left hd hpos
    simp only [acc, ih, h1, and_nat c h2, h3]
    rw [wrap64 (n / 128 ^ j % 128) (by omega)]
    have e : (((n / 128 ^ j % 128 : Nat) : Int) * 2 ^ (7 * j)) = (((n / 128 ^ j % 128) * 128 ^ j : Nat) : Int) := by
      rw [← pow7]; push_cast; rfl
    rw [e, wrap64 ((n / 128 ^ j % 128) * 128 ^ j) (by omega), or_nat _ _ (by omega) (by omega)]
    have hor : n % 128 ^ j ||| (n / 128 ^ j % 128) * 128 ^ j = n % 128 ^ (j + 1) := by
      have := Nat.two_pow_add_eq_or_of_lt (i := 7 * j) (b := n % 128 ^ j) (by rw [pow7]; exact hm) (n / 128 ^ j % 128)
      rw [pow7] at this
      rw [Nat.or_comm, Nat.mul_comm, ← this, hps, Nat.mod_mul]
      omega
    rw [hor, wrap64 _ (by have := Nat.mod_lt n (show 0 < 128 ^ (j + 1) from Nat.pow_pos (by decide)); omega)]
end
theorem allT_of : ∀ {l : List Bool}, (∀ b ∈ l, b = true) → allT l = true
  | [], _ => rfl
  | b :: l, h => by
    simp only [allT, Bool.and_eq_true]
    exact ⟨h b (by simp), allT_of fun c hc => h c (by simp [hc])⟩
theorem b_gt {m c : Nat} (h : c < m) : decide ((m : Int) > (c : Int)) = true := decide_eq_true (by omega)
theorem b_ngt {m c : Nat} (h : m ≤ c) : (!decide ((m : Int) > (c : Int))) = true := by rw [decide_eq_false (by omega)]; rfl
theorem b_lt {m c : Nat} (h : m < c) : decide ((m : Int) < (c : Int)) = true := decide_eq_true (by omega)
theorem b_nlt {m c : Nat} (h : c ≤ m) : (!decide ((m : Int) < (c : Int))) = true := by rw [decide_eq_false (by omega)]; rfl
theorem b_nge {m c : Nat} (h : m < c) : (!decide ((m : Int) ≥ (c : Int))) = true := by rw [decide_eq_false (by omega)]; rfl
theorem b_nz {m : Nat} (h : 0 < m) : (!((m : Int) == 0)) = true := by
  cases hb : ((m : Int) == 0) with
  | false => rfl
  | true => have := eq_of_beq hb; omega
theorem asks_true {k n : Nat} {more : List (List AV)} (h1 : 1 ≤ k) (h9 : k ≤ 9) (hlo : 128 ^ (k - 1) ≤ n) (hhi : n < 128 ^ k) (hone : rowsOne more = true) (hmore : more.length < 140737488355000) : allT (asks k (n : Int) more).reverse = true := by
  refine allT_of fun b hb => ?_
  rw [List.mem_reverse] at hb
  have hp : (128 : Nat) ^ k ≤ 128 ^ 9 := Nat.pow_le_pow_right (by decide) h9
  have h9' : (128 : Nat) ^ 9 = 9223372036854775808 := by decide
  have big : ∀ j, j + 1 ≤ k - 1 → 128 ≤ n / 128 ^ j := by
    intro j hj
    rw [Nat.le_div_iff_mul_le (Nat.pow_pos (by decide)), Nat.mul_comm, ← Nat.pow_succ]
    exact Nat.le_trans (Nat.pow_le_pow_right (by decide) hj) hlo
  have pos : ∀ j, j ≤ k - 1 → 1 ≤ n / 128 ^ j := by
    intro j hj
    rw [Nat.le_div_iff_mul_le (Nat.pow_pos (by decide)), Nat.one_mul]
    exact Nat.le_trans (Nat.pow_le_pow_right (by decide) hj) hlo
  have last : n / 128 ^ (k - 1) < 128 := by
    rw [Nat.div_lt_iff_lt_mul (Nat.pow_pos (by decide)), Nat.mul_comm, ← Nat.pow_succ, show (k - 1).succ = k from by omega]
    exact hhi
  have none : n / 128 ^ k = 0 := Nat.div_eq_of_lt hhi
  have hfd : (n : Int).fdiv (2 ^ 63) = 0 := by
    rw [Int.fdiv_eq_ediv_of_nonneg _ (by decide)]
    rw [show ((2 : Int) ^ 63) = ((9223372036854775808 : Nat) : Int) from by decide, ← Int.natCast_ediv, Nat.div_eq_of_lt (by omega)]
    rfl
  simp only [asks, List.mem_append, List.mem_flatMap, List.mem_map, List.mem_range, List.mem_cons, List.not_mem_nil, or_false] at hb
  rcases hb with ((((((((rfl | ⟨j, hj, rfl | rfl⟩) | (rfl | rfl | rfl)) | ⟨j, hj, rfl⟩) | (rfl | rfl | rfl | rfl)) | ⟨j, hj, hb⟩) | ⟨j, hj, (rfl | rfl | rfl | rfl | rfl | rfl)⟩) | (rfl | rfl | rfl | rfl | rfl | rfl)))
  · rw [hfd]; rfl
  · rw [dv_nat]; exact b_gt (c := 127) (big j (by omega))
  · rfl
  · rw [dv_nat]; exact b_ngt (c := 127) (by omega)
  · rfl
  · exact b_nge (c := 9223372036854775808) (by omega)
  · rw [dv_nat]; exact b_gt (c := 0) (pos (j + 1) (by omega))
  · rw [dv_nat, none]; rfl
  · rfl
  · rfl
  · simp only [hone, Bool.true_and, Bool.and_eq_true]
    exact ⟨Nat.ble_eq_true_of_le (by omega), Nat.ble_eq_true_of_le (by omega)⟩
  · rcases hb with (rfl | rfl | rfl) | hb
    · exact b_nge (by omega)
    · exact Nat.ble_eq_true_of_le (by omega)
    · by_cases hjk : j + 1 < k
      · rw [cB_hi hjk]; exact b_nz (by omega)
      · have e : j = k - 1 := by omega
        subst e
        rw [cB_lo hjk (by omega)]; exact b_nz (pos (k - 1) (Nat.le_refl _))
    · by_cases hjk : j + 1 < k
      · have : Nat.blt (j + 1) k = true := Nat.ble_eq_true_of_le hjk
        rw [this] at hb
        simp only [cond_true, List.mem_cons, List.not_mem_nil, or_false] at hb
        rcases hb with rfl | rfl | rfl
        · rw [cB_hi hjk]; exact b_gt (c := 127) (by omega)
        · rfl
        · rw [cB_hi hjk]; exact b_nlt (c := 128) (by omega)
      · have hf : Nat.blt (j + 1) k = false := by
          cases hb' : Nat.blt (j + 1) k with
          | false => rfl
          | true => simp [Nat.blt] at hb'; omega
        have e : j = k - 1 := by omega
        subst e
        rw [hf] at hb
        simp only [cond_false, List.mem_cons, List.not_mem_nil, or_false] at hb
        rcases hb with rfl | rfl
        · rw [cB_lo hjk (by omega)]; exact b_ngt (c := 127) (by omega)
        · rw [cB_lo hjk (by omega)]; exact b_lt (c := 128) (by omega)
  · rfl
  · rfl
  · rw [cB_hi (by omega)]; exact b_nz (by omega)
  · rw [cB_hi (by omega)]; exact b_gt (c := 127) (by omega)
  · rfl
  · rw [cB_hi (by omega)]; exact b_nlt (c := 128) (by omega)
  · rfl
  · rfl
  · rw [acc_nat h9 hhi k (Nat.le_refl _), Nat.mod_eq_of_lt hhi]; exact beq_self_eq_true _
  · rfl
  · rfl
  · rfl
end Go.Proofs.YtkpdnjhkmjnnaaaGreat
