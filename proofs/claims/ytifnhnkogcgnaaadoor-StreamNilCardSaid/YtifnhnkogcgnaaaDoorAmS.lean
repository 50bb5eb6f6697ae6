/-
  An abstract machine, part S: the program that runs code and functions.
-/
import Derived.Test.YtifnhnkogcgnaaaDoorAmR
namespace Go.Am

def gdE (l : List Oper) (L : Loc) : Option (Nat × Bool) → Option (Bool × Loc)
  | none => some (true, [])
  | some (j, want) => match l[j]? with
    | some q => match q.dst with
      | some t => match lk L t with
        | some (.v (.bool b)) => some (cond want b (!b), [(t, .v (.bool b))])
        | _ => none
      | none => none
    | none => none
def dstB (n : Nat) : Option Nat → Bool
  | some d => Nat.blt d n
  | none => true
/-- a slot's new value, in its place -/
def ups (d : Nat) (av : AV) : Loc → Loc
  | [] => [(d, av)]
  | (t, b) :: M => cond (Nat.beq t d) ((t, av) :: M) ((t, b) :: ups d av M)
def upsO (M : Loc) (dst : Option Nat) (av : AV) : Loc := match dst with
  | some d => ups d av M
  | none => M

/-- the least object that is touched -/
def tmOf (N : Nat) : Kd → Nat
  | .st k _ _ => k
  | .from k => k
  | .write => 0
  | _ => N
def runOps (P : Program) (n : Nat) (callf : FuncId → List AV → List Ob → Option (AV × List Ob × Nat)) (pu : FuncId → Bool) (all : List Oper) : List Oper → Loc → List Ob → Nat → Option (List Rec × Loc × List Ob × Nat)
  | [], M, ob, tm => some ([], M, ob, tm)
  | o :: l, M, ob, tm => match gdE all M o.guard with
    | none => none
    | some (false, gu) => cond (dstB n o.dst) (match runOps P n callf pu all l (upsO M o.dst (.v undef)) ob tm with
      | some (recs, M2, ob2, tm2) => some (⟨o.dst, gu, .v undef, [], .pure⟩ :: recs, M2, ob2, tm2)
      | none => none) none
    | some (true, gu) => cond (dstB n o.dst) (match exec P callf pu (aeval M) o ob with
      | some (r, kd, ob1, xs) => match runOps P n callf pu all l (upsO M o.dst r) ob1 (Nat.min tm (tmOf ob.length kd)) with
        | some (recs, M2, ob2, tm2) => some (⟨o.dst, gu ++ uses xs, r, [], kd⟩ :: recs, M2, ob2, tm2)
        | none => none
      | none => none) none

abbrev St := Loc × List Ob × Nat
def loopN (step : St → Option (AX × St)) : Nat → St → Option (AX × St)
  | 0, _ => none
  | k + 1, s => match step s with
    | some (.normal, s1) => loopN step k s1
    | r => r
def blockR (id : Nat) : Option (AX × St) → Option (AX × St)
  | some (.exit j, s) => cond (Nat.beq j id) (some (.normal, s)) (some (.exit j, s))
  | r => r
def runCode (P : Program) (n : Nat) (callf : FuncId → List AV → List Ob → Option (AV × List Ob × Nat)) (pu : FuncId → Bool) (lf : Nat) : Code → St → Option (AX × St)
  | .skip, s => some (.normal, s)
  | .label _, s => some (.normal, s)
  | .ret, s => some (.ret, s)
  | .exit id, s => some (.exit id, s)
  | .region _ ops draw, (M, ob, tm) => match runOps P n callf pu ops.toList ops.toList M ob tm with
    | some (recs, s) => match draw with
      | true => cond (drawOk ops.toList recs) (some (.normal, s)) none
      | false => some (.normal, s)
    | none => none
  | .seq a b, s => match runCode P n callf pu lf a s with
    | some (.normal, s1) => runCode P n callf pu lf b s1
    | r => r
  | .cond c a b, s => match aeval s.1 c with
    | some (.v (.bool true)) => runCode P n callf pu lf a s
    | some (.v (.bool false)) => runCode P n callf pu lf b s
    | _ => none
  | .block id c, s => blockR id (runCode P n callf pu lf c s)
  | .loop c, s => loopN (runCode P n callf pu lf c) lf s
  | _, _ => none

def resE (P : Program) (M : Loc) (ob : List Ob) : List ResultVar → Option (List AV)
  | [] => some []
  | .tmp t :: rs => match lk M t, resE P M ob rs with
    | some av, some avs => some (av :: avs)
    | _, _ => none
  | .cell t ty :: rs => match lk M t, tyk P ty, resE P M ob rs with
    | some (.pt o off), some (g, k), some avs => match ob[o]? with
      | some (.box cells) => match g with
        | true => cond (Nat.ble (off + k) cells.length) (some (.ag ((cells.drop off).take k) :: avs)) none
        | false => match cells[off]? with
          | some c => some (c :: avs)
          | none => none
      | _ => none
    | _, _, _ => none
/-- what is new and not named any more is forgotten -/
def dropE (N : Nat) (r : AV) (ob : List Ob) : List Ob := cond (Nat.ble N ob.length && r.und N && (ob.take N).all (Ob.und N)) (ob.take N) ob
def endE (P : Program) (N : Nat) (rs : List ResultVar) : Option (AX × St) → Option (AV × List Ob × Nat)
  | some (x, M, ob, tm) => match x with
    | .normal => match resE P M ob rs with
      | some avs => some (resOf avs, dropE N (resOf avs) ob, tm)
      | none => none
    | .ret => match resE P M ob rs with
      | some avs => some (resOf avs, dropE N (resOf avs) ob, tm)
      | none => none
    | _ => none
  | none => none
def runFn (P : Program) (pu : FuncId → Bool) (lf : Nat) : Nat → FuncId → List AV → List Ob → Option (AV × List Ob × Nat)
  | 0, _, _, _ => none
  | k + 1, f, args, ob => match P.funcs[f]? with
    | some fn => match fn.body with
      | some c => cond (Nat.ble args.length fn.ntmps && !(fn.name == "runtime.NumGoroutine")) (endE P ob.length fn.results.toList (runCode P fn.ntmps (runFn P pu lf k) pu lf c (argLoc 0 args, ob, ob.length))) none
      | none => none
    | none => none
end Go.Am
