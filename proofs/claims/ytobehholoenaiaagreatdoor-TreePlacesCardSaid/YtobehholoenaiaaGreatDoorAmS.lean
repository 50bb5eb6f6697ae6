/-
  An abstract machine, part S: the program that runs code and functions. Slots and objects lie in trees; what is hot is written by recursors, for the kernel runs it.
-/
import Derived.Test.YtobehholoenaiaaGreatDoorAmR
namespace Go.Am

/-- a map from numbers: at the root 0, else left for even ones, right for odd ones -/
inductive Tri (α : Type) where
  | e
  | n (v : Option α) (l r : Tri α)
section
variable {α : Type}
noncomputable def Tri.get (m : Tri α) : Nat → Option α :=
  Tri.rec (motive := fun _ => Nat → Option α) (fun _ => none)
    (fun v _ _ gl gr t => cond (Nat.beq t 0) v (cond (Nat.beq (Nat.mod t 2) 0) (gl (Nat.div t 2)) (gr (Nat.div t 2)))) m
noncomputable def Tri.new (av : α) (k : Nat) : Nat → Tri α :=
  Nat.rec (motive := fun _ => Nat → Tri α) (fun _ => .n (some av) .e .e)
    (fun _ ih t => cond (Nat.beq t 0) (.n (some av) .e .e) (cond (Nat.beq (Nat.mod t 2) 0) (.n none (ih (Nat.div t 2)) .e) (.n none .e (ih (Nat.div t 2))))) k
noncomputable def Tri.set (av : α) (m : Tri α) : Nat → Tri α :=
  Tri.rec (motive := fun _ => Nat → Tri α) (fun t => Tri.new av t t)
    (fun v l r sl sr t => cond (Nat.beq t 0) (.n (some av) l r) (cond (Nat.beq (Nat.mod t 2) 0) (.n v (sl (Nat.div t 2)) r) (.n v l (sr (Nat.div t 2))))) m
end

noncomputable def tev (M : Tri AV) : Operand → Option AV
  | .tmp t => M.get t
  | .const (.agg cs) => some (.ag (cs.toList.map .v))
  | .const v => some (.v v)
  | .global g => match tabs.lookup g with
    | some cs => some (.pf (cs.map .v))
    | none => some (.v (.pointer (some ⟨g, 0, none⟩)))
  | .func f => some (.fn (.func f) [] [])
inductive GR where
  | fail
  | ok (want : Bool) (gu : Loc)
noncomputable def gdE (l : List Oper) (M : Tri AV) : Option (Nat × Bool) → GR
  | none => .ok true []
  | some (j, want) => match l[j]? with
    | some q => match q.dst with
      | some t => match M.get t with
        | some (.v (.bool b)) => .ok (cond want b (!b)) [(t, .v (.bool b))]
        | some (.v (.tuple ⟨[]⟩)) => .ok false [(t, .v undef)]
        | _ => .fail
      | none => .fail
    | none => .fail
def dstB (n : Nat) : Option Nat → Bool
  | some d => Nat.blt d n
  | none => true
noncomputable def upT (M : Tri AV) (av : AV) : Option Nat → Tri AV
  | some d => M.set av d
  | none => M
/-- what is touched, by bits -/
def tmD (N : Nat) : Dl → Nat
  | .keep => 0
  | .set k _ => bit k
  | .push _ => bit N
  | .kpush k _ => Nat.lor (bit k) (bit N)
/-- What a run is told ahead, and what hangs on it. 'lo': the objects that are touched, by bits; 'gd': how the comparisons to come turn out; 'ok': what must be true for that. -/
structure TM where
  lo : Nat
  gd : List Gi
  ok : List Bool
def TM.low : TM → Nat → TM
  | ⟨a, g, o⟩, k => ⟨Nat.lor a k, g, o⟩
/-- behind a call that began at its own mark -/
def TM.meet : TM → TM → TM
  | ⟨a, _, _⟩, ⟨b, g, o⟩ => ⟨Nat.lor a b, g, o⟩
def TM.take : TM → TM → TM
  | ⟨a, _, _⟩, ⟨_, g, o⟩ => ⟨a, g, o⟩
def TM.at : TM → Nat → TM
  | ⟨_, g, o⟩, _ => ⟨0, g, o⟩
def TM.asks : TM → Bool → TM
  | ⟨a, g, o⟩, p => ⟨a, g, p :: o⟩
def TM.told : TM → List Gi → Bool → TM
  | ⟨a, _, o⟩, r, p => ⟨a, r, p :: o⟩
/-- a test: told ahead, what a look at the outside gives -/
def TM.syn : TM → Bool → Bool → Bool
  | ⟨_, [], _⟩, real, _ => real
  | ⟨_, _ :: _, _⟩, _, s => s
/-- .. and asked -/
def TM.askq : TM → Bool → TM
  | ⟨a, [], o⟩, _ => ⟨a, [], o⟩
  | ⟨a, g :: r, o⟩, p => ⟨a, g :: r, p :: o⟩
mutual
/-- does a value look as if it named no object? -/
def AV.synP : AV → Bool
  | .pt _ _ => false
  | .sr _ _ _ _ => false
  | .mp _ => false
  | .yl _ => false
  | .any => true
  | .v _ => true
  | .sl _ _ => true
  | .cl _ _ => true
  | .ag cs => synPs cs
  | .tu cs => synPs cs
  | .pf cs => synPs cs
  | .fn _ fs cs => synPs fs && synPs cs
  | .ifc _ y => y.synP
def synPs : List AV → Bool
  | [] => true
  | c :: cs => c.synP && synPs cs
end
noncomputable def appO (O : Tri Ob) (N : Nat) : Dl → Tri Ob
  | .keep => O
  | .set k X => cond (Nat.blt k N) (O.set X k) O
  | .push X => O.set X N
  | .kpush k X => (cond (Nat.blt k N) (O.set .dead k) O).set X N
def appN (N : Nat) : Dl → Nat
  | .keep => N
  | .set _ _ => N
  | .push _ => N + 1
  | .kpush _ _ => N + 1

/-- how a call ends -/
inductive CR where
  | fail
  | ret (av : AV) (O : Tri Ob) (N : Nat) (tm : TM)
  | pan (av : AV) (O : Tri Ob) (N : Nat) (tm : TM)
/-- .. an operation -/
inductive SR where
  | fail
  | val (rc : Rec) (M : Tri AV) (O : Tri Ob) (N : Nat) (tm : TM)
  | pan (av : AV) (O : Tri Ob) (N : Nat) (tm : TM)
/-- .. a region's operations -/
inductive RR where
  | fail
  | ok (recs : List Rec) (M : Tri AV) (O : Tri Ob) (N : Nat) (tm : TM)
  | pan (av : AV) (M : Tri AV) (O : Tri Ob) (N : Nat) (tm : TM)
/-- .. code -/
inductive RX where
  | fail
  | ok (x : AX) (M : Tri AV) (O : Tri Ob) (N : Nat) (tm : TM)
abbrev CallF := FuncId → List AV → Tri Ob → Nat → TM → CR

/-- from this number on calls are calls of yields, by the loops' objects -/
def yBase : Nat := 1000000
def callWE (c : CR) (rc : AV → Nat → Rec) (M : AV → Tri AV) (tm : TM) : SR := match c with
  | .ret r O1 N1 t1 => .val (rc r t1.lo) (M r) O1 N1 (tm.meet t1)
  | .pan av O1 N1 t1 => .pan av O1 N1 (tm.meet t1)
  | .fail => .fail
/-- a call that leaves what it was handed as it is and names none of its own forgets them -/
def callDE (c : CR) (rc : AV → Kd → Rec) (M : AV → Tri AV) (O : Tri Ob) (N : Nat) (tm : TM) : SR := match c with
  | .ret r O1 N1 t1 => cond (Nat.beq (Nat.mod t1.lo (Nat.pow 2 N)) 0 && t1.syn (r.und N) false) (.val (rc r .read) (M r) O N (tm.take t1)) (.val (rc r (.chg t1.lo)) (M r) O1 N1 (tm.meet t1))
  | .pan av O1 N1 t1 => .pan av O1 N1 (tm.meet t1)
  | .fail => .fail
noncomputable def triOk (k : Nat) : List Ob → Tri Ob → Tri Ob
  | [], O => O
  | X :: l, O => triOk (k + 1) l (O.set X k)
def bitsF (N k : Nat) : Nat := Nat.shiftLeft (Nat.pred (Nat.pow 2 k)) N
def shf (N i : Nat) : Nat := Nat.add N i
/-- the objects of a store, numbered anew from N on -/
noncomputable def objsF (O : Tri Ob) (N : Nat) (k : Nat) : Nat → List Ob :=
  Nat.rec (motive := fun _ => Nat → List Ob) (fun _ => []) (fun _ ih i => (match O.get i with
    | some X => X.ren (shf N)
    | none => .dead) :: ih (Nat.succ i)) k
/-- the objects of a store -/
noncomputable def objsL (O : Tri Ob) (k : Nat) : Nat → List Ob :=
  Nat.rec (motive := fun _ => Nat → List Ob) (fun _ => []) (fun _ ih i => (match O.get i with
    | some X => X
    | none => .dead) :: ih (Nat.succ i)) k
noncomputable def frzR (f : FuncId) (r : AV) (O : Tri Ob) (N : Nat) : Option AV := cond (frzF.any (Nat.beq f)) (match frzV (objsL O N 0) 0 60 r with
  | some r' => cond r'.pure (some r') none
  | none => none) none
/-- a call that is handed no object -/
noncomputable def callQE (f : FuncId) (c : CR) (rc : AV → Kd → Rec) (M : AV → Tri AV) (O : Tri Ob) (N : Nat) (tm : TM) (alt : SR) : SR := match c with
  | .ret r O1 N1 t1 => cond (Nat.beq N1 0 && t1.syn r.pure r.synP) (.val (rc r .pure) (M r) O N ((tm.take t1).askq r.pure)) <| match frzR f r O1 N1 with
    | some r' => .val (rc r' .pure) (M r') O N (tm.take t1)
    | none => (.val (rc (r.ren (shf N)) (.from N)) (M (r.ren (shf N))) (triOk N (objsF O1 N N1 0) O) (Nat.add N N1) ((tm.take t1).low (bitsF N N1)))
  | .pan _ _ _ _ => alt
  | .fail => .fail
/-- abi.NoEscape: the one argument as it is -/
def escE (args : List Operand) (avs fs cs : List AV) (k : AV → SR) : SR := match args, avs, fs, cs with
  | [_], [av], [], [] => k av
  | _, _, _, _ => .fail
noncomputable def callE (P : Program) (callf : CallF) (pu : FuncId → Bool) (dst : Option Nat) (gu : Loc) (x : Operand) (args : List Operand) (M : Tri AV) (O : Tri Ob) (N : Nat) (tm : TM) : SR :=
  match tev M x, evAE (tev M) args with
  | some (.yl o), some (avs, xs) => callWE (callf (yBase + o) avs O N tm) (fun r t1 => ⟨dst, gu ++ uses ((x, .yl o) :: xs), r, [], .yl t1⟩) (fun r => upT M r dst) tm
  | some (.fn (.func f) fs cs), some (avs, xs) => cond (!Nat.blt f yBase) .fail <| cond (noEscB P f) (escE args avs fs cs (fun av => .val ⟨dst, gu ++ uses ((x, .fn (.func f) fs cs) :: xs), av, [], .pure⟩ (upT M av dst) O N tm)) <| cond (tm.syn (pureVals avs && pureVals fs && pureVals cs) (synPs avs && synPs fs && synPs cs))
    (callQE f (callf f (fs ++ (avs ++ cs)) .e 0 (tm.askq (pureVals avs && pureVals fs && pureVals cs))) (fun r kd => ⟨dst, gu ++ uses ((x, .fn (.func f) fs cs) :: xs), r, [], kd⟩) (fun r => upT M r dst) O N tm
      (callDE (callf f (fs ++ (avs ++ cs)) O N tm) (fun r kd => ⟨dst, gu ++ uses ((x, .fn (.func f) fs cs) :: xs), r, [], kd⟩) (fun r => upT M r dst) O N tm))
    (cond (pu f) .fail <| callDE (callf f (fs ++ (avs ++ cs)) O N tm) (fun r kd => ⟨dst, gu ++ uses ((x, .fn (.func f) fs cs) :: xs), r, [], kd⟩) (fun r => upT M r dst) O N tm)
  | _, _ => .fail
def execR (M : Tri AV) (dst : Option Nat) (gu : Loc) (O : Tri Ob) (N : Nat) (tm : TM) (upT : Tri AV → AV → Option Nat → Tri AV) (appO : Tri Ob → Nat → Dl → Tri Ob) : Option Out → SR
  | some (r, kd, d, xs) => .val ⟨dst, gu ++ uses xs, r, [], kd⟩ (upT M r dst) (appO O N d) (appN N d) (tm.low (tmD N d))
  | none => .fail
/-- an operation on numbers of which it is told what it gives -/
noncomputable def cmpR (M : Tri AV) (dst : Option Nat) (gu : Loc) (O : Tri Ob) (N : Nat) (tm : TM) (g : Gi) (r : List Gi) (upT : Tri AV → AV → Option Nat → Tri AV) (appO : Tri Ob → Nat → Dl → Tri Ob) (out : Option Out) : SR := match g, out with
  | .b d, some (.v (.bool b), .pure, .keep, xs) => .val ⟨dst, gu ++ uses xs, .v (.bool d), [], .pure⟩ (upT M (.v (.bool d)) dst) O N (tm.told r (cond d b (!b)))
  | .int z, some (.v (.int k n), .pure, .keep, xs) => .val ⟨dst, gu ++ uses xs, .v (.int k z), [], .pure⟩ (upT M (.v (.int k z)) dst) O N (tm.told r (dec (n = z)))
  | _, o => execR M dst gu O N tm upT appO o
def chkR (M : Tri AV) (dst : Option Nat) (gu : Loc) (O : Tri Ob) (N : Nat) (tm : TM) (upT : Tri AV → AV → Option Nat → Tri AV) (appO : Tri Ob → Nat → Dl → Tri Ob) (x : Option Out) : Option (Bool × Out) → SR
  | some (p, out) => execR M dst gu O N (tm.asks p) upT appO (some out)
  | none => execR M dst gu O N tm upT appO x
noncomputable def hintR (M : Tri AV) (dst : Option Nat) (gu : Loc) (O : Tri Ob) (N : Nat) (tm : TM) (r : List Gi) (upT : Tri AV → AV → Option Nat → Tri AV) (appO : Tri Ob → Nat → Dl → Tri Ob) (y : SR) : Option (Bool × Out) → SR
  | some (p, out) => execR M dst gu O N (tm.told r p) upT appO (some out)
  | none => y
noncomputable def panE (M : Tri AV) (x : Operand) (O : Tri Ob) (N : Nat) (tm : TM) : SR := match tev M x with
  | some (.ifc t y) => .pan (.ifc t y) O N tm
  | _ => .fail
noncomputable def doOp (P : Program) (callf : CallF) (pu : FuncId → Bool) (o : Oper) (gu : Loc) (M : Tri AV) (O : Tri Ob) (N : Nat) (tm : TM) : SR := match o.op with
  | .call c => match c.callee with
    | .value x => callE P callf pu o.dst gu x c.args.toList M O N tm
    | _ => match tm.gd with
      | [] => execR M o.dst gu O N tm upT appO (exec P (tev M) o O.get N)
      | g :: r => hintR M o.dst gu O N tm r upT appO (chkR M o.dst gu O N tm upT appO (exec P (tev M) o O.get N) (chkE P (tev M) o.op O.get N)) (askE P (tev M) o.type o.op O.get g)
  | .indexAddr _ _ _ => match tm.gd with
    | [] => execR M o.dst gu O N tm upT appO (exec P (tev M) o O.get N)
    | g :: r => hintR M o.dst gu O N tm r upT appO (chkR M o.dst gu O N tm upT appO (exec P (tev M) o O.get N) (chkE P (tev M) o.op O.get N)) (hintE P (tev M) o.op O.get g)
  | .slice _ _ _ _ _ => match tm.gd with
    | [] => execR M o.dst gu O N tm upT appO (exec P (tev M) o O.get N)
    | g :: r => hintR M o.dst gu O N tm r upT appO (chkR M o.dst gu O N tm upT appO (exec P (tev M) o O.get N) (chkE P (tev M) o.op O.get N)) (askE P (tev M) o.type o.op O.get g)
  | .load _ _ => match tm.gd with
    | [] => execR M o.dst gu O N tm upT appO (exec P (tev M) o O.get N)
    | g :: r => hintR M o.dst gu O N tm r upT appO (execR M o.dst gu O N tm upT appO (exec P (tev M) o O.get N)) (hintE P (tev M) o.op O.get g)
  | .store _ _ _ => match tm.gd with
    | [] => execR M o.dst gu O N tm upT appO (exec P (tev M) o O.get N)
    | g :: r => hintR M o.dst gu O N tm r upT appO (execR M o.dst gu O N tm upT appO (exec P (tev M) o O.get N)) (hintE P (tev M) o.op O.get g)
  | .panic x => panE M x O N tm
  | .binOp _ _ _ _ _ => match tm.gd with
    | [] => execR M o.dst gu O N tm upT appO (exec P (tev M) o O.get N)
    | d :: r => cmpR M o.dst gu O N tm d r upT appO (exec P (tev M) o O.get N)
  | _ => match tm.gd with
    | [] => execR M o.dst gu O N tm upT appO (exec P (tev M) o O.get N)
    | g :: r => hintR M o.dst gu O N tm r upT appO (execR M o.dst gu O N tm upT appO (exec P (tev M) o O.get N)) (askE P (tev M) o.type o.op O.get g)
noncomputable def stepOp (P : Program) (n : Nat) (callf : CallF) (pu : FuncId → Bool) (all : List Oper) (o : Oper) (M : Tri AV) (O : Tri Ob) (N : Nat) (tm : TM) : SR :=
  cond (dstB n o.dst) (match gdE all M o.guard with
    | .ok true gu => doOp P callf pu o gu M O N tm
    | .ok false gu => .val ⟨o.dst, gu, .v undef, [], .pure⟩ (upT M (.v undef) o.dst) O N tm
    | .fail => .fail) .fail
def consR (rc : Rec) : RR → RR
  | .ok recs M O N tm => .ok (rc :: recs) M O N tm
  | r => r
def glueR (M0 : Tri AV) (ih : Tri AV → Tri Ob → Nat → TM → RR) : SR → RR
  | .val rc M O N tm => consR rc (ih M O N tm)
  | .pan av O N tm => .pan av M0 O N tm
  | .fail => .fail
noncomputable def runOps (P : Program) (n : Nat) (callf : CallF) (pu : FuncId → Bool) (all : List Oper) (l : List Oper) : Tri AV → Tri Ob → Nat → TM → RR :=
  List.rec (motive := fun _ => Tri AV → Tri Ob → Nat → TM → RR) (fun M O N tm => .ok [] M O N tm)
    (fun o _ ih M O N tm => glueR M ih (stepOp P n callf pu all o M O N tm)) l
/-- may this stand in a round? -/
def _root_.Go.Code.inR : Code → Bool
  | .region _ ops _ => ops.toList.all Oper.still
  | .seq a b => a.inR && b.inR
  | .cond _ a b => a.inR && b.inR
  | .block _ c => c.inR
  | .loop c => c.inR
  | .scope _ => false
  | .rangeFunc _ _ _ _ => false
  | _ => true
def regR (ops : List Oper) (draw : Bool) : RR → RX
  | .ok recs M O N tm => match draw with
    | true => cond (drawOk ops recs) (.ok .normal M O N tm) .fail
    | false => .ok .normal M O N tm
  | .pan av M O N tm => cond (!draw) (.ok (.panic av) M O N tm) .fail
  | .fail => .fail
def seqR (k : Tri AV → Tri Ob → Nat → TM → RX) : RX → RX
  | .ok .normal M O N tm => k M O N tm
  | r => r
def blockR (id : Nat) : RX → RX
  | .ok (.exit j) M O N tm => cond (Nat.beq j id) (.ok .normal M O N tm) (.ok (.exit j) M O N tm)
  | r => r
def noGo : RX → RX
  | .ok (.goto _) _ _ _ _ => .fail
  | r => r
def jumpR (run : Code → Tri AV → Tri Ob → Nat → TM → RX) (c : Code) (ih : RX → RX) : RX → RX
  | .ok (.goto l) M O N tm => match findLabel c l with
    | some rest => cond (!rest.rf || c.rf) (ih (run rest M O N tm)) .fail
    | none => .fail
  | r => r
noncomputable def scopeN (run : Code → Tri AV → Tri Ob → Nat → TM → RX) (c : Code) (k : Nat) : RX → RX :=
  Nat.rec (motive := fun _ => RX → RX) noGo (fun _ ih => jumpR run c ih) k
noncomputable def loopN (step : Tri AV → Tri Ob → Nat → TM → RX) (k : Nat) : Tri AV → Tri Ob → Nat → TM → RX :=
  Nat.rec (motive := fun _ => Tri AV → Tri Ob → Nat → TM → RX) (fun _ _ _ _ => .fail) (fun _ ih M O N tm => seqR ih (step M O N tm)) k
def condR (a b : Tri AV → Tri Ob → Nat → TM → RX) (M : Tri AV) (O : Tri Ob) (N : Nat) (tm : TM) : Option AV → RX
  | some (.v (.bool true)) => a M O N tm
  | some (.v (.bool false)) => b M O N tm
  | _ => .fail
/-- all that a tree holds -/
noncomputable def Tri.all (M : Tri AV) : Nat → Nat → List (Nat × AV) → List (Nat × AV) :=
  Tri.rec (motive := fun _ => Nat → Nat → List (Nat × AV) → List (Nat × AV)) (fun _ _ l => l)
    (fun v _ _ al ar k s l => match v with
      | some av => (k, av) :: al k (2 * s) (ar (k + s) (2 * s) l)
      | none => al k (2 * s) (ar (k + s) (2 * s) l)) M
/-- the jump that is left, by how the code ends -/
def jumpX : Option Code → Option AX
  | none => some .normal
  | some (.exit id) => some (.exit id)
  | some .ret => some .ret
  | _ => none
def jumpA : AX → Option (Option Code)
  | .normal => some none
  | .exit id => some (some (.exit id))
  | .ret => some (some .ret)
  | _ => none
noncomputable def rngE (N : Nat) (M : Tri AV) (tm : TM) : CR → RX
  | .ret _ O N1 t1 => match O.get N with
    | some (.lp false k _ _) => match jumpX k.jump with
      | some x => .ok x M (O.set .dead N) N1 ((tm.meet t1).low (bit N))
      | none => .fail
    | _ => .fail
  | _ => .fail
noncomputable def rngR (n : Nat) (callf : CallF) (g : Operand) (ps : Array Tmp) (a b : Code) (M : Tri AV) (O : Tri Ob) (N : Nat) (tm : TM) : RX := match tev M g with
  | some (.fn (.func f) [] cs) => match (M.all 0 1 []).filter fun p => match M.get p.1 with
      | some _ => Nat.blt p.1 n
      | none => false with
    | l => cond (Nat.blt f yBase && (a.inR && b.inR)) (rngE N M tm (callf f (.yl N :: cs) (O.set (.lp false ⟨n, ps, a, b, none⟩ (l.map (·.1)) (l.map fun p => match M.get p.1 with
      | some av => av
      | none => .any)) N) (N + 1) (tm.at (N + 1)))) .fail
  | _ => .fail
noncomputable def runC (run : Code → Tri AV → Tri Ob → Nat → TM → RX) (P : Program) (n : Nat) (callf : CallF) (pu : FuncId → Bool) (lf : Nat) (c : Code) : Tri AV → Tri Ob → Nat → TM → RX :=
  Code.rec (motive := fun _ => Tri AV → Tri Ob → Nat → TM → RX)
    (fun M O N tm => .ok .normal M O N tm)
    (fun _ ops draw M O N tm => regR ops.toList draw (runOps P n callf pu ops.toList ops.toList M O N tm))
    (fun _ _ a b M O N tm => seqR b (a M O N tm))
    (fun x _ _ a b M O N tm => condR a b M O N tm (tev M x))
    (fun id _ a M O N tm => blockR id (a M O N tm))
    (fun _ a => loopN a lf)
    (fun g ps a b _ _ M O N tm => rngR n callf g ps a b M O N tm)
    (fun id M O N tm => .ok (.exit id) M O N tm)
    (fun c a M O N tm => scopeN run c lf (a M O N tm))
    (fun _ M O N tm => .ok .normal M O N tm)
    (fun l M O N tm => .ok (.goto l) M O N tm)
    (fun M O N tm => .ok .ret M O N tm)
    (fun _ _ _ _ _ => .fail) c
/-- code; a goto within what is behind a label leads on no more -/
noncomputable def runCode (P : Program) (n : Nat) (callf : CallF) (pu : FuncId → Bool) (lf : Nat) (c : Code) : Tri AV → Tri Ob → Nat → TM → RX :=
  runC (runC (fun _ _ _ _ _ => .fail) P n callf pu lf) P n callf pu lf c

noncomputable def resE (P : Program) (M : Tri AV) (O : Tri Ob) : List ResultVar → Option (List AV)
  | [] => some []
  | .tmp t :: rs => match M.get t, resE P M O rs with
    | some av, some avs => some (av :: avs)
    | _, _ => none
  | .cell t ty :: rs => match M.get t, tyk P ty, resE P M O rs with
    | some (.pt o off), some (g, k), some avs => match O.get o with
      | some (.box _ cells) => match g with
        | true => cond (Nat.ble (off + k) cells.length) (some (.ag ((cells.drop off).take k) :: avs)) none
        | false => match cells[off]? with
          | some c => some (c :: avs)
          | none => none
      | _ => none
    | _, _, _ => none
/-- a call that was handed no object and tells of none forgets its own -/
noncomputable def dropR (N : Nat) (r : AV) (O : Tri Ob) (N1 : Nat) (tm : TM) : CR := cond (Nat.beq N 0 && (!Nat.beq N1 0 && tm.syn (r.und 0) false)) (.ret r .e 0 (tm.at 0)) (.ret r O N1 tm)
noncomputable def retE (P : Program) (N0 : Nat) (rs : List ResultVar) (M : Tri AV) (O : Tri Ob) (N : Nat) (tm : TM) : CR := match resE P M O rs with
  | some avs => dropR N0 (resOf avs) O N tm
  | none => .fail
noncomputable def endE (P : Program) (N0 : Nat) (rs : List ResultVar) : RX → CR
  | .ok x M O N tm => match x with
    | .normal => retE P N0 rs M O N tm
    | .ret => retE P N0 rs M O N tm
    | .panic av => .pan av O N tm
    | _ => .fail
  | .fail => .fail
noncomputable def argT (k : Nat) : List AV → Tri AV → Tri AV
  | [], M => M
  | av :: r, M => argT (k + 1) r (M.set av k)

/-! ### defer, recover -/
/-- what goes ahead of a function's one 'defer', the operations of its region, the function that is deferred, and what is behind -/
def lastDefer : List Oper → Option (List Oper × Operand)
  | [] => none
  | [⟨none, .defer ⟨.value x, ⟨[]⟩, _⟩, _, _, _, none⟩] => some ([], x)
  | o :: l => match lastDefer l with
    | some (l', x) => some (o :: l', x)
    | none => none
def splitD : Code → Option (Code × List Oper × List Oper × Operand × Code)
  | .seq a (.seq (.region _ ops false) b) => match lastDefer ops.toList with
    | some (l, x) => some (a, ops.toList, l, x, b)
    | none => none
  | _ => none
/-- a deferred function that begins by recover -/
def splitR : Code → Option (Option Nat × List Oper × List Oper × Code)
  | .seq (.region _ ⟨⟨d, .call ⟨.builtin .recover, ⟨[]⟩, ts⟩, ty, pos, af, none⟩ :: l⟩ false) b => some (d, ⟨d, .call ⟨.builtin .recover, ⟨[]⟩, ts⟩, ty, pos, af, none⟩ :: l, l, b)
  | _ => none
/-- how a deferred call ends that was begun by a frame that panics ('some') or returns -/
inductive DR where
  | fail
  | ok (O : Tri Ob) (N : Nat) (tm : TM)
def noYl (recs : List Rec) : Bool := recs.all fun rc => !rc.kind.isYl
def recR (k : List Rec → Tri AV → Tri Ob → Nat → TM → DR) : RR → DR
  | .ok recs M O N tm => cond (noYl recs) (k recs M O N tm) .fail
  | _ => .fail
def endDR : RX → DR
  | .ok .normal _ O N tm => .ok O N tm
  | .ok .ret _ O N tm => .ok O N tm
  | _ => .fail
def panV : Option AV → AV
  | some av => av
  | none => .v .nilIface
noncomputable def runDef (P : Program) (pu : FuncId → Bool) (lf : Nat) (callf : CallF) (g : FuncId) (args : List AV) (pan : Option AV) (O : Tri Ob) (N : Nat) (tm : TM) : DR := match P.funcs[g]? with
  | some fn => match fn.body with
    | some c => match splitR c with
      | some (some d, all, l, b) => cond (Nat.ble args.length fn.ntmps && Nat.blt d fn.ntmps && fn.results.toList.isEmpty && !(fn.name == "runtime.NumGoroutine"))
        (recR (fun _ M O N tm => cond b.rf .fail (endDR (runCode P fn.ntmps callf pu lf b M O N tm))) (runOps P fn.ntmps callf pu all l ((argT 0 args .e).set (panV pan) d) O N tm)) .fail
      | _ => .fail
    | none => .fail
  | none => .fail
def isEnd : AX → Option (Option AV)
  | .normal => some none
  | .ret => some none
  | .panic av => some (some av)
  | _ => none
noncomputable def defEnd (P : Program) (N0 : Nat) (rs : List ResultVar) (M : Tri AV) : DR → CR
  | .ok O N tm => retE P N0 rs M O N tm
  | .fail => .fail
noncomputable def runD (P : Program) (pu : FuncId → Bool) (lf : Nat) (callf : CallF) (n N0 : Nat) (rs : List ResultVar) (all l : List Oper) (x : Operand) (b : Code) : RX → CR
  | .ok .normal M O N tm => match runOps P n callf pu all l M O N tm with
    | .ok recs M1 O1 N1 tm1 => cond (!noYl recs) .fail <| match tev M1 x with
      | some (.fn (.func g) fs cs) => match runCode P n callf pu lf b M1 O1 N1 tm1 with
        | .ok x2 M2 O2 N2 tm2 => match isEnd x2 with
          | some pan => defEnd P N0 rs M2 (runDef P pu lf callf g (fs ++ cs) pan O2 N2 tm2)
          | none => .fail
        | .fail => .fail
      | _ => .fail
    | _ => .fail
  | _ => .fail
noncomputable def runBody (P : Program) (pu : FuncId → Bool) (lf : Nat) (callf : CallF) (fn : Func) (c : Code) (args : List AV) (O : Tri Ob) (N : Nat) (tm : TM) : CR := match splitD c with
  | none => endE P N fn.results.toList (runCode P fn.ntmps callf pu lf c (argT 0 args .e) O N (tm.at N))
  | some (a, all, l, x, b) => cond (a.rf || b.rf) .fail <| runD P pu lf callf fn.ntmps N fn.results.toList all l x b (runCode P fn.ntmps callf pu lf a (argT 0 args .e) O N (tm.at N))
/-! ### Rounds -/
noncomputable def setPs : List Tmp → List AV → Tri AV → Tri AV
  | t :: ts, av :: avs, M => setPs ts avs (M.set av t)
  | _, _, M => M
noncomputable def lpT : List Nat → List AV → Tri AV
  | t :: ts, av :: avs => (lpT ts avs).set av t
  | _, _ => .e
noncomputable def rndE (o : Nat) : RX → CR
  | .ok x _ O N tm => match jumpA x with
    | some j => match O.get o with
      | some (.lp true k ts cs) => cond k.free (.ret (.v (.bool j.isNone)) (O.set (.lp false (k.left j) ts cs) o) N (tm.low (bit o))) .fail
      | _ => .fail
    | none => .fail
  | _ => .fail
noncomputable def rndB (P : Program) (pu : FuncId → Bool) (lf : Nat) (callf : CallF) (n o : Nat) (b : Code) (M : Tri AV) (O : Tri Ob) (N : Nat) (tm : TM) : CR := match O.get o with
  | some (.lp false k ts cs) => cond k.free (rndE o (runCode P n callf pu lf b M (O.set (.lp true k ts cs) o) N (tm.low (bit o)))) .fail
  | _ => .fail
noncomputable def rndA (P : Program) (pu : FuncId → Bool) (lf : Nat) (callf : CallF) (n o : Nat) (b : Code) : RX → CR
  | .ok .normal M O N tm => rndB P pu lf callf n o b M O N tm
  | _ => .fail
noncomputable def runY (P : Program) (pu : FuncId → Bool) (lf : Nat) (callf : CallF) (o : Nat) (args : List AV) (O : Tri Ob) (N : Nat) (tm : TM) : CR := match O.get o with
  | some (.lp false k ts cs) => cond (Nat.beq args.length k.ps.size && (k.ps.toList.all (fun t => Nat.blt t k.n) && (k.assign.inR && k.body.inR)))
    (rndA P pu lf callf k.n o k.body (runCode P k.n callf pu lf k.assign (setPs k.ps.toList args (lpT ts cs)) O N (tm.at N))) .fail
  | _ => .fail
noncomputable def runFn (P : Program) (pu : FuncId → Bool) (lf : Nat) (k : Nat) : CallF :=
  Nat.rec (motive := fun _ => CallF) (fun _ _ _ _ _ => .fail)
    (fun _ callf f args O N tm => cond (!Nat.blt f yBase) (runY P pu lf callf (f - yBase) args O N tm) <| match P.funcs[f]? with
      | some fn => match fn.body with
        | some c => cond (Nat.ble args.length fn.ntmps && !(fn.name == "runtime.NumGoroutine")) (runBody P pu lf callf fn c args O N tm) .fail
        | none => .fail
      | none => .fail) k
end Go.Am
