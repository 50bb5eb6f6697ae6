/- slices.Clone, three times: the same rows, in memory of their own. -/
import Derived.Test.YtifnhnkogcgnaaaDoorAmFz
import Derived.Test.YtifnhnkogcgnaaaDoorD1
namespace Go.Proofs.YtifnhnkogcgnaaaDoor
open Go.Am
/-- rows that may be cloned -/
def Rows1 (rows : List (List AV)) : Prop := rowsOne rows = true ∧ pureRows rows = true ∧ rows.length ≤ 100000
theorem nle {a b : Nat} (h : a ≤ b) : Nat.ble a b = true := Nat.ble_eq_true_of_le h
theorem andt {a b : Bool} (h : a = true) (k : b = true) : (a && b) = true := by rw [h, k]; rfl
theorem clone29a (r : List AV) (rows : List (List AV)) : outC (base 29 [.sl 1 (r :: rows)] .e 0 ⟨0, [.b false, .b true], []⟩) = some (.sr 1 1 0 (0 + (r :: rows).length), [Ob.dead, .row 5 1 ([] ++ r :: rows)].map some,
    [true && (true && rowsOne (r :: rows) && Nat.ble ((0 + (r :: rows).length) * 1) 140737488355328 && Nat.ble (0 + (r :: rows).length) 9223372036854775807), true]) := by kernel_rfl
theorem clone30a (r : List AV) (rows : List (List AV)) : outC (base 30 [.sl 4 (r :: rows)] .e 0 ⟨0, [.b false, .b true], []⟩) = some (.sr 1 4 0 (0 + (r :: rows).length), [Ob.dead, .row 43 4 ([] ++ r :: rows)].map some,
    [true && (true && rowsOne (r :: rows) && Nat.ble ((0 + (r :: rows).length) * 32) 140737488355328 && Nat.ble (0 + (r :: rows).length) 9223372036854775807), true]) := by kernel_rfl
theorem clone35a (r : List AV) (rows : List (List AV)) : outC (base 35 [.sl 5 (r :: rows)] .e 0 ⟨0, [.b false, .b true], []⟩) = some (.sr 1 5 0 (0 + (r :: rows).length), [Ob.dead, .row 52 5 ([] ++ r :: rows)].map some,
    [true && (true && rowsOne (r :: rows) && Nat.ble ((0 + (r :: rows).length) * 40) 140737488355328 && Nat.ble (0 + (r :: rows).length) 9223372036854775807), true]) := by kernel_rfl
theorem clone29b (a : Addr) (c : Nat) : outC (base 29 [.v (.slice (some a) 0 c)] .e 0 ⟨0, [.b false, .b true], []⟩) = some (.sr 1 1 0 0, [Ob.dead, .row 5 1 []].map some, [true, true]) := by kernel_rfl
theorem clone30b (a : Addr) (c : Nat) : outC (base 30 [.v (.slice (some a) 0 c)] .e 0 ⟨0, [.b false, .b true], []⟩) = some (.sr 1 4 0 0, [Ob.dead, .row 43 4 []].map some, [true, true]) := by kernel_rfl
theorem clone35b (a : Addr) (c : Nat) : outC (base 35 [.v (.slice (some a) 0 c)] .e 0 ⟨0, [.b false, .b true], []⟩) = some (.sr 1 5 0 0, [Ob.dead, .row 52 5 []].map some, [true, true]) := by kernel_rfl
theorem clone29c (c : Nat) : outC (base 29 [.v (.slice none 0 c)] .e 0 ⟨0, [.b true], []⟩) = some (.v (.slice none 0 0), [], [true]) := by kernel_rfl
theorem clone30c (c : Nat) : outC (base 30 [.v (.slice none 0 c)] .e 0 ⟨0, [.b true], []⟩) = some (.v (.slice none 0 0), [], [true]) := by kernel_rfl
theorem clone35c (c : Nat) : outC (base 35 [.v (.slice none 0 c)] .e 0 ⟨0, [.b true], []⟩) = some (.v (.slice none 0 0), [], [true]) := by kernel_rfl
theorem fn_of {f : FuncId} {args : List AV} {ob ob' : List Ob} {r : AV} (h : ARet Tryd.prog f args ob [] r ob') : ∃ fn, Tryd.prog.funcs[f]? = some fn ∧ (fn.name == "runtime.NumGoroutine") = false ∧ fn.body.isNone = false := h.1
/-- an empty slice, wherever it lies -/
theorem aret_empty {f : FuncId} {S : Nat} {r : AV} (hn : ∀ c, ARet Tryd.prog f [.v (.slice none 0 c)] [] [] r []) (hs : ∀ a c, ARet Tryd.prog f [.v (.slice (some a) 0 c)] [] [] r []) : ARet Tryd.prog f [.sl S []] [] [] r [] :=
  aret_case (fn_of (hn 0)) fun m γ vs hv => by
    simp only [RepVals] at hv
    obtain ⟨x, _, rfl, h1, rfl⟩ := hv
    simp only [Rep] at h1
    obtain ⟨a, len, cap, rfl, e2, _, _⟩ := h1
    have hl : len = 0 := by simpa using e2
    subst hl
    refine ⟨[.v (.slice a 0 cap)], by simp [RepVals, Rep], ?_⟩
    cases a with
    | none => exact hn cap
    | some a => exact hs a cap
theorem clone_of {f : FuncId} {S T B : Nat} (hB : B ≤ 40) (ha : ∀ r rows, outC (base f [.sl S (r :: rows)] .e 0 ⟨0, [.b false, .b true], []⟩) = some (.sr 1 S 0 (0 + (r :: rows).length), [Ob.dead, .row T S ([] ++ r :: rows)].map some,
    [true && (true && rowsOne (r :: rows) && Nat.ble ((0 + (r :: rows).length) * B) 140737488355328 && Nat.ble (0 + (r :: rows).length) 9223372036854775807), true]))
    (hb : ∀ a c, outC (base f [.v (.slice (some a) 0 c)] .e 0 ⟨0, [.b false, .b true], []⟩) = some (.sr 1 S 0 0, [Ob.dead, .row T S []].map some, [true, true]))
    (hc : ∀ c, outC (base f [.v (.slice none 0 c)] .e 0 ⟨0, [.b true], []⟩) = some (.v (.slice none 0 0), [], [true])) (rows : List (List AV)) (h : Rows1 rows) : ARet Tryd.prog f [.sl S rows] [] [] (.sl S rows) [] := by
  obtain ⟨h1, h2, h3⟩ := h
  cases rows with
  | nil => exact aret_empty (fun c => aret_weak (aret_of_run base_ok (obs := []) (hc c) rfl) fun m γ x hx => weak_nil x hx) fun a c => aret_slice (aret_of_run base_ok (hb a c) rfl) (o := 1) rfl rfl rfl
  | cons r rows =>
    refine aret_slice (aret_of_run base_ok (ha r rows) (ac (andt rfl (andt (andt (andt rfl h1) (nle ?_)) (nle ?_))) (ac rfl rfl))) (o := 1) rfl (by simp) h2
    · rw [Nat.zero_add]; have := Nat.mul_le_mul h3 hB; omega
    · omega
theorem clone29 (rows : List (List AV)) (h : Rows1 rows) : ARet Tryd.prog 29 [.sl 1 rows] [] [] (.sl 1 rows) [] := clone_of (by decide) clone29a clone29b clone29c rows h
theorem clone30 (rows : List (List AV)) (h : Rows1 rows) : ARet Tryd.prog 30 [.sl 4 rows] [] [] (.sl 4 rows) [] := clone_of (by decide) clone30a clone30b clone30c rows h
theorem clone35 (rows : List (List AV)) (h : Rows1 rows) : ARet Tryd.prog 35 [.sl 5 rows] [] [] (.sl 5 rows) [] := clone_of (by decide) clone35a clone35b clone35c rows h
/-- .. known ahead -/
def CloneArg (S : Nat) (args : List AV) : Prop := ∃ rows, args = [.sl S rows] ∧ Rows1 rows
def theArg : List AV → AV
  | [av] => av
  | _ => .any
theorem clone_known {f : FuncId} {S : Nat} (h : ∀ rows, Rows1 rows → ARet Tryd.prog f [.sl S rows] [] [] (.sl S rows) []) (args : List AV) (hp : CloneArg S args) : ARet Tryd.prog f args [] [] (theArg args) [] ∧ pureVals args = true ∧ (theArg args).pure = true := by
  obtain ⟨rows, rfl, hr⟩ := hp
  exact ⟨h rows hr, by simp [pureVals, AV.pure, hr.2.1], by simp [theArg, AV.pure, hr.2.1]⟩
end Go.Proofs.YtifnhnkogcgnaaaDoor
