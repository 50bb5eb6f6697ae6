/- units.New, as a call that makes a cursor; what the pieces of functions are called. -/
import Derived.Test.YtifnhnkogcgnaaaDoorAmLp
import Derived.Test.YtifnhnkogcgnaaaDoorE1
namespace Go.Proofs.YtifnhnkogcgnaaaDoor
open Go.Am
noncomputable def bodyOf (f : Nat) : Code := match Tryd.prog.funcs[f]? with
  | some fn => match fn.body with
    | some c => c
    | none => .skip
  | none => .skip
def sq1 : Code → Code
  | .seq a _ => a
  | c => c
def sq2 : Code → Code
  | .seq _ b => b
  | c => c
/-- what is looped in a block that is one loop -/
def inn : Code → Code
  | .block _ (.loop c) => c
  | c => c
abbrev I (z : Int) : AV := .v (.int .i64 z)
def noPu : FuncId → Bool := fun _ => false
def cursor (rows : List (List AV)) (a b l c : Int) : List AV := [.sl 1 rows, I a, I b, I l, I c]
theorem new_run (rows : List (List AV)) : outC (base 44 [.sl 1 rows] .e 0 ⟨0, [.b true], []⟩) = some (.pt 2 0, [Ob.dead, .row 5 1 ([] ++ rows), .box [.sr 1 1 0 (0 + rows.length), I 0, I 0, I 1, I 0]].map some,
    [true && (true && rowsOne rows && Nat.ble ((0 + rows.length) * 1) 140737488355328 && Nat.ble (0 + rows.length) 9223372036854775807)]) := by kernel_rfl
theorem new44 (rows : List (List AV)) (h : Rows1 rows) : ARet Tryd.prog 44 [.sl 1 rows] [] [] (.pt 2 0) [.dead, .dead, .box (cursor rows 0 0 1 0)] := by
  have h1 := aret_of_run base_ok (new_run rows) (ac (andt rfl (andt (andt (andt rfl h.1) (nle (by have := h.2.2; omega))) (nle (by have := h.2.2; omega)))) rfl)
  refine aret_frz h1 (o := 1) rfl (.inl ⟨_, _, _, rfl⟩) (Frz.same _) rfl fun i Y Y' e1 e2 => ?_
  match i with
  | 0 => simp at e2; exact .inl e2.symm
  | 1 => simp at e2; exact .inl e2.symm
  | 2 =>
    simp at e1 e2
    subst e1; subst e2
    exact .inr ⟨by decide, .box (.cons (Frz.sr0 (T := 5) (S := 1) (rows := [] ++ rows) rfl (by simp)) (FrzL.same _))⟩
  | k + 3 => simp at e2
def newRes (_ : List AV) (N : Nat) : AV := .pt (N + 2) 0
def newObs : List AV → Nat → List Ob
  | [.sl 1 rows], _ => [.dead, .dead, .box (cursor rows 0 0 1 0)]
  | _, _ => []
theorem new_known (args : List AV) (hp : CloneArg 1 args) : ∃ r0 obs0, ARet Tryd.prog 44 args [] [] r0 obs0 ∧ pureVals args = true ∧ ∀ N, r0.ren (fsel [] N) = newRes args N ∧ obs0.map (Ob.ren (fsel [] N)) = newObs args N := by
  obtain ⟨rows, rfl, hr⟩ := hp
  exact ⟨_, _, new44 rows hr, by simp [pureVals, AV.pure, hr.2.1], fun N => ⟨by simp [AV.ren, newRes, fsel], by simp [Ob.ren, newObs, cursor, renVals, AV.ren, renRows_pure _ _ hr.2.1]⟩⟩
end Go.Proofs.YtifnhnkogcgnaaaDoor
