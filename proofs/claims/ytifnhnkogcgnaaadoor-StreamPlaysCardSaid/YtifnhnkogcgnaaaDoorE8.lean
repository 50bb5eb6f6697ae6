/- Whole numbers up to 2000 as floats and back; units.Span and units.Ends at such numbers. -/
import Derived.Test.YtifnhnkogcgnaaaDoorE7
namespace Go.Proofs.YtifnhnkogcgnaaaDoor
open Go.Am
def flV (b : Nat) : Value := .float .f64 b
def bigF : Nat := 4787326403894837248
noncomputable def fb (n : Nat) : Nat := match plainS Tryd.prog (convert 3 74 (.int .i64 n)) with
  | some (.float .f64 b) => b
  | _ => 0
def isFl (b : Nat) : Option Value → Bool
  | some (.float .f64 c) => Nat.beq c b
  | _ => false
def isIn (n : Nat) : Option Value → Bool
  | some (.int .i64 (.ofNat m)) => Nat.beq m n
  | _ => false
def isNx (b : Nat) : Option Next → Bool
  | some (.value (.float .f64 c)) => Nat.beq c b
  | _ => false
theorem isFl_spec {b : Nat} {o : Option Value} (h : isFl b o = true) : o = some (flV b) := by
  unfold isFl at h
  split at h
  · rw [Nat.eq_of_beq_eq_true h]; rfl
  · cases h
theorem isIn_spec {n : Nat} {o : Option Value} (h : isIn n o = true) : o = some (.int .i64 n) := by
  unfold isIn at h
  split at h
  · rw [Nat.eq_of_beq_eq_true h]; rfl
  · cases h
theorem isNx_spec {b : Nat} {o : Option Next} (h : isNx b o = true) : o = some (.value (flV b)) := by
  unfold isNx at h
  split at h
  · rw [Nat.eq_of_beq_eq_true h]; rfl
  · cases h
noncomputable def chk (n : Nat) : Bool := isFl (fb n) (plainS Tryd.prog (convert 3 74 (.int .i64 n))) && (isIn n (plainS Tryd.prog (convert 74 3 (flV (fb n)))) &&
  (isNx (fb n) (plainS Tryd.prog (invoke (.builtin .max #[74, 74] 74 #[false, true]) [flV (fb n), flV 0].toArray)) && (isNx (fb n) (plainS Tryd.prog (invoke (.builtin .min #[74, 74] 74 #[false, true]) [flV (fb n), flV bigF].toArray)) &&
  !(FloatKind.f64.format.order (fb n) (fb n) != some Ordering.eq))))
noncomputable def chkTo (k : Nat) : Bool := Nat.rec (motive := fun _ => Bool) true (fun i ih => cond (chk i) ih false) k
theorem chkTo_succ (k : Nat) : chkTo (k + 1) = cond (chk k) (chkTo k) false := rfl
theorem chkTo_spec (k : Nat) : chkTo k = true → ∀ n, n < k → chk n = true := by
  induction k with
  | zero => intro _ n h; omega
  | succ k ih =>
    intro h n hn
    rw [chkTo_succ] at h
    cases hc : chk k with
    | false => rw [hc] at h; cases h
    | true =>
      rw [hc] at h
      by_cases e2 : n = k
      · rw [e2]; exact hc
      · exact ih h n (by omega)
theorem chk_all : chkTo 2001 = true := by kernel_rfl
theorem chk_of {n : Nat} (h : n ≤ 2000) : chk n = true := chkTo_spec 2001 chk_all n (Nat.lt_succ_of_le h)
structure Fl (n : Nat) : Prop where
  cf : ConvP Tryd.prog 3 74 (.int .i64 n) (flV (fb n))
  cb : ConvP Tryd.prog 74 3 (flV (fb n)) (.int .i64 n)
  mx : CallP Tryd.prog .max #[74, 74] 74 #[false, true] [flV (fb n), flV 0] (flV (fb n))
  mn : CallP Tryd.prog .min #[74, 74] 74 #[false, true] [flV (fb n), flV bigF] (flV (fb n))
  nn : (!(FloatKind.f64.format.order (fb n) (fb n) != some Ordering.eq)) = true
theorem fl {n : Nat} (h : n ≤ 2000) : Fl n := by
  have h := chk_of h
  simp only [chk, Bool.and_eq_true] at h
  obtain ⟨h1, h2, h3, h4, h5⟩ := h
  exact ⟨isFl_spec h1, isIn_spec h2, isNx_spec h3, isNx_spec h4, h5⟩
end Go.Proofs.YtifnhnkogcgnaaaDoor
