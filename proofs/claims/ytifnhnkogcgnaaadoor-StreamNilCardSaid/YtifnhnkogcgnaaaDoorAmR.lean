/-
  An abstract machine, part R: a program that runs the operations by itself, and that it is right.
-/
import Derived.Test.YtifnhnkogcgnaaaDoorAmQ
namespace Go.Am

abbrev Out := AV × Kd × List Ob × List (Operand × AV)
def evPE (ev : Operand → Option AV) : List (Nat × Operand) → Option (List (Nat × AV) × List (Operand × AV))
  | [] => some ([], [])
  | (i, x) :: r => match ev x with
    | some av => match evPE ev r with
      | some (as, xs) => some ((i, av) :: as, (x, av) :: xs)
      | none => none
    | none => none
def evAE (ev : Operand → Option AV) : List Operand → Option (List AV × List (Operand × AV))
  | [] => some ([], [])
  | x :: r => match ev x with
    | some av => match evAE ev r with
      | some (as, xs) => some (av :: as, (x, av) :: xs)
      | none => none
    | none => none
theorem evPE_spec {L : Loc} : ∀ {ps : List (Nat × Operand)} {as : List (Nat × AV)} {xs : List (Operand × AV)}, evPE (aeval L) ps = some (as, xs) → EvP L ps as xs
  | [], as, xs, h => by simp only [evPE, Option.some.injEq, Prod.mk.injEq] at h; obtain ⟨rfl, rfl⟩ := h; exact .nil
  | (i, x) :: r, as, xs, h => by
    simp only [evPE] at h
    cases hx : aeval L x with
    | none => simp [hx] at h
    | some av =>
      cases hr : evPE (aeval L) r with
      | none => simp [hx, hr] at h
      | some p =>
        obtain ⟨bs, ys⟩ := p
        simp only [hx, hr, Option.some.injEq, Prod.mk.injEq] at h
        obtain ⟨rfl, rfl⟩ := h
        exact .cons hx (evPE_spec hr)
theorem evAE_spec {L : Loc} : ∀ {ps : List Operand} {as : List AV} {xs : List (Operand × AV)}, evAE (aeval L) ps = some (as, xs) → EvA L ps as xs
  | [], as, xs, h => by simp only [evAE, Option.some.injEq, Prod.mk.injEq] at h; obtain ⟨rfl, rfl⟩ := h; exact .nil
  | x :: r, as, xs, h => by
    simp only [evAE] at h
    cases hx : aeval L x with
    | none => simp [hx] at h
    | some av =>
      cases hr : evAE (aeval L) r with
      | none => simp [hx, hr] at h
      | some p =>
        obtain ⟨bs, ys⟩ := p
        simp only [hx, hr, Option.some.injEq, Prod.mk.injEq] at h
        obtain ⟨rfl, rfl⟩ := h
        exact .cons hx (evAE_spec hr)
/-- a bound of a piece -/
def bdE (ev : Operand → Option AV) (d : Nat) : Option Operand → Option (Nat × List (Operand × AV))
  | none => some (d, [])
  | some x => match ev x with
    | some (.v (.int q (.ofNat k))) => some (k, [(x, .v (.int q (.ofNat k)))])
    | _ => none
theorem bdE_spec {L : Loc} {d : Nat} {x : Option Operand} {k : Nat} {xs : List (Operand × AV)} (h : bdE (aeval L) d x = some (k, xs)) : Bd L d x k xs := by
  cases x with
  | none => simp only [bdE, Option.some.injEq, Prod.mk.injEq] at h; obtain ⟨rfl, rfl⟩ := h; exact .non
  | some x =>
    simp only [bdE] at h
    split at h
    · rename_i q j hx
      simp only [Option.some.injEq, Prod.mk.injEq] at h
      obtain ⟨rfl, rfl⟩ := h
      exact .num (z := .ofNat j) hx (Int.natCast_nonneg j)
    · cases h

def plainE (P : Program) (ev : Operand → Option AV) (o : Oper) (ob : List Ob) : Option Out :=
  match opArgs o.op with
  | some xs => cond (plainOk ev xs) (match plainS P (execOp (argV ev) o) with
    | some (.value r) => some (ofV r, .pure, ob, xs.map (argPair ev))
    | _ => none) none
  | none => none
def strE (ev : Operand → Option AV) (op : BinOp) (x y : Operand) (ob : List Ob) : Option Out :=
  match op, ev x, ev y with
  | .eql, some (.v (.string a)), some (.v (.string b)) => some (.v (.bool (beqL a.data.toList b.data.toList)), .pure, ob, [(x, .v (.string a)), (y, .v (.string b))])
  | .neq, some (.v (.string a)), some (.v (.string b)) => some (.v (.bool (!beqL a.data.toList b.data.toList)), .pure, ob, [(x, .v (.string a)), (y, .v (.string b))])
  | _, _, _ => none
def nnE (P : Program) (ev : Operand → Option AV) (op : BinOp) (t : TypeId) (x y : Operand) (ob : List Ob) : Option Out :=
  match ev x, ev y with
  | some av, some (.v z) => match notNil ob av with
    | k + 1 => cond (Nat.beq (nilKind z) (k + 1) && Nat.beq (kindT P t) (k + 1)) (match op with
      | .eql => some (.v (.bool false), .pure, ob, [(x, av), (y, .v z)])
      | .neq => some (.v (.bool true), .pure, ob, [(x, av), (y, .v z)])
      | _ => none) none
    | 0 => none
  | _, _ => none
def loadE (P : Program) (ev : Operand → Option AV) (t : TypeId) (x : Operand) (ob : List Ob) : Option Out :=
  match ev x, tyk P t with
  | some (.pt o off), some (g, k) => match ob[o]? with
    | some (.box cells) => match g with
      | true => cond (Nat.ble (off + k) cells.length) (some (.ag ((cells.drop off).take k), .rd o (.box cells), ob, [(x, .pt o off)])) none
      | false => match cells[off]? with
        | some c => some (c, .rd o (.box cells), ob, [(x, .pt o off)])
        | none => none
    | some (.row E S rows) => match rows[off / S]? with
      | some row => match g with
        | true => cond (Nat.ble (off % S + k) S) (some (.ag ((row.drop (off % S)).take k), .rd o (.row E S rows), ob, [(x, .pt o off)])) none
        | false => match row[off % S]? with
          | some c => some (c, .rd o (.row E S rows), ob, [(x, .pt o off)])
          | none => none
      | none => none
    | _ => none
  | some (.pf cs), some (g, k) => match g with
    | true => cond (Nat.ble k cs.length) (some (.ag (cs.take k), .pure, ob, [(x, .pf cs)])) none
    | false => match cs with
      | c :: cs' => some (c, .pure, ob, [(x, .pf (c :: cs'))])
      | [] => none
  | _, _ => none
def storeE (P : Program) (ev : Operand → Option AV) (t : TypeId) (p x : Operand) (ob : List Ob) : Option Out :=
  match ev p, ev x, tyk P t with
  | some (.pt o off), some av, some (_g, k) => match acells av with
    | some cs => cond (Nat.beq cs.length k) (match ob[o]? with
      | some (.box cells) => cond (Nat.ble (off + k) cells.length) (some (.any, .st o (.box cells) (.box (spl cells off cs)), ob.set o (.box (spl cells off cs)), [(p, .pt o off), (x, av)])) none
      | some (.row E S rows) => match rows[off / S]? with
        | some row => cond (Nat.ble (off % S + k) S) (some (.any, .st o (.row E S rows) (.row E S (rows.set (off / S) (splice row (off % S) cs))), ob.set o (.row E S (rows.set (off / S) (splice row (off % S) cs))), [(p, .pt o off), (x, av)])) none
        | none => none
      | _ => none) none
    | none => none
  | _, _, _ => none
def sliceE (P : Program) (ev : Operand → Option AV) (t : TypeId) (x : Operand) (lo hi mo : Option Operand) (ob : List Ob) : Option Out :=
  match slk P t, ev x with
  | some (e, S, _), some av => match lenA av with
    | some len => match bdE ev 0 lo, bdE ev len hi, bdE ev 0 mo with
      | some (p, xl), some (q, xh), some (mx, xm) =>
        cond (Nat.ble p q && Nat.ble q len) (match mo with
        | none => match av with
          | .sl S' rows => cond (Nat.beq S' S) (some (.sl S ((rows.drop p).take (q - p)), .pure, ob, xl ++ (xh ++ [(x, .sl S rows)]))) none
          | .sr o S' l0 len' => cond (Nat.beq S' S) (some (.sr o S (l0 + p) (q - p), .pure, ob, xl ++ (xh ++ (xm ++ [(x, .sr o S l0 len')])))) none
          | _ => none
        | some _ => match hi with
          | none => none
          | some _ => cond (Nat.beq p q && Nat.beq p mx) (some (.sr ob.length S 0 0, .from ob.length, ob ++ [.row e S []], xl ++ (xh ++ (xm ++ [(x, av)])))) (match av with
            | .sr o S' l0 len' => cond (Nat.beq S' S && (Nat.ble q mx && Nat.ble mx len) && !Nat.beq mx p) (some (.sr o S (l0 + p) (q - p), .pure, ob, xl ++ (xh ++ (xm ++ [(x, .sr o S l0 len')])))) none
            | _ => none)) none
      | _, _, _ => none
    | none => none
  | _, _ => none
def dstE (ob : List Ob) (e : TypeId) (S : Nat) : AV → Option (Nat × List (List AV) × List Ob)
  | .v (.slice none 0 0) => some (0, [], ob)
  | .sr o S' 0 k => match ob[o]? with
    | some (.row e' S2 rows) => cond (Nat.beq S' S && Nat.beq S2 S && Nat.beq e' e && Nat.ble k rows.length) (some (k, rows, ob.set o .dead)) none
    | _ => none
  | _ => none
theorem dstE_spec {ob : List Ob} {e : TypeId} {S : Nat} {av : AV} {k : Nat} {rows : List (List AV)} {ob1 : List Ob} (h : dstE ob e S av = some (k, rows, ob1)) : Dst ob e S av k rows ob1 := by
  unfold dstE at h
  split at h
  · simp only [Option.some.injEq, Prod.mk.injEq] at h; obtain ⟨rfl, rfl, rfl⟩ := h; exact .none
  · rename_i o S' k'
    split at h
    · rename_i e' S2 rows' ho
      cases hc : Nat.beq S' S && Nat.beq S2 S && Nat.beq e' e && Nat.ble k' rows'.length with
      | false => simp [hc] at h
      | true =>
        simp only [hc, cond_true, Option.some.injEq, Prod.mk.injEq] at h
        simp only [Bool.and_eq_true] at hc
        obtain ⟨rfl, rfl, rfl⟩ := h
        have q1 := Nat.eq_of_beq_eq_true hc.1.1.1
        have q2 := Nat.eq_of_beq_eq_true hc.1.1.2
        have q3 := Nat.eq_of_beq_eq_true hc.1.2
        subst q1; subst q2; subst q3
        exact .row ho (Nat.le_of_ble_eq_true hc.2)
    · cases h
  · cases h
def appendE (P : Program) (ev : Operand → Option AV) (t tx : TypeId) (x y : Operand) (ob : List Ob) : Option Out :=
  match slk P t, ev x, ev y with
  | some (e, S, B), some avx, some avy => match zer P e, dstE ob e S avx, srcA ob S avy with
    | some zs, some (k, rows, ob1), some new =>
      cond (Nat.beq zs.length S && srcT P tx avy && rowsOne new && Nat.ble ((k + new.length) * B) 140737488355328 && Nat.ble (k + new.length) 9223372036854775807)
        (some (.sr ob.length S 0 (k + new.length), .from (match avx with | .sr o _ _ _ => Nat.min o ob.length | _ => ob.length), ob1 ++ [.row e S (rows.take k ++ new)], [(x, avx), (y, avy)])) none
    | _, _, _ => none
  | _, _, _ => none
def lenE (P : Program) (ev : Operand → Option AV) (t : TypeId) (x : Operand) (ob : List Ob) : Option Out :=
  match slk P t, ev x with
  | some _, some av => match lenA av with
    | some k => some (.v (.int .i64 k), .pure, ob, [(x, av)])
    | none => none
  | _, _ => none
def mapPutE (P : Program) (ev : Operand → Option AV) (t : TypeId) (x y z : Operand) (ob : List Ob) : Option Out :=
  match mapT P t, ev x, ev y, ev z with
  | some (_, _, d), some (.mp o), some (.v k), some av => match ob[o]? with
    | some (.mp keys vals) => cond (isKeyB d k && keys.all (isKeyB d)) (match kfind d k keys with
      | some i => some (.any, .st o (.mp keys vals) (mput keys vals k av i), ob.set o (mput keys vals k av i), [(x, .mp o), (y, .v k), (z, av)])
      | none => none) none
    | _ => none
  | _, _, _, _ => none
def mapGetE (P : Program) (ev : Operand → Option AV) (t : TypeId) (x y : Operand) (ok : Bool) (ob : List Ob) : Option Out :=
  match mapT P t, ev x, ev y with
  | some (_, vt, d), some (.mp o), some (.v k) => match ob[o]?, plainS P (zeroValue vt) with
    | some (.mp keys vals), some z => cond (isKeyB d k) (match kfind d k keys with
      | some i => match mgetA vals (ofV z) i with
        | some av => some (cond ok (.tu [av, .v (.bool (okA i))]) av, .rd o (.mp keys vals), ob, [(x, .mp o), (y, .v k)])
        | none => none
      | none => none) none
    | _, _ => none
  | _, _, _ => none
def b2sE (P : Program) (ev : Operand → Option AV) (s d : TypeId) (x : Operand) (ob : List Ob) : Option Out :=
  match ev x with
  | some (.v (.string _)) => none
  | some av => cond (strT P s d) (match srcA ob 1 av with
    | some new => match plains new.flatten with
      | some vs => match bytesOf vs with
        | some zs => cond (rowsOne new) (some (.v (.string (mkString zs)), .read, ob, [(x, av)])) none
        | none => none
      | none => none
    | none => none) none
  | none => none
def conv8E (P : Program) (ev : Operand → Option AV) (s d : TypeId) (x : Operand) (ob : List Ob) : Option Out :=
  match ev x with
  | some (.sr o 1 0 len) => match ob[o]? with
    | some (.row _ 1 rows) => cond (conv8 P s d && Nat.beq len rows.length && Nat.blt 0 len) (some (.sl 1 rows, .from o, ob.set o .dead, [(x, .sr o 1 0 len)])) none
    | _ => none
  | _ => none
def callE (callf : FuncId → List AV → List Ob → Option (AV × List Ob × Nat)) (pu : FuncId → Bool) (ev : Operand → Option AV) (x : Operand) (args : List Operand) (ob : List Ob) : Option Out :=
  match ev x, evAE ev args with
  | some (.fn (.func f) fs cs), some (avs, xs) => cond (pu f) (cond (pureVals avs && pureVals fs && pureVals cs) (match callf f (fs ++ (avs ++ cs)) [] with
      | some (r, [], _) => cond r.pure (some (r, .pure, ob, (x, .fn (.func f) fs cs) :: xs)) none
      | _ => none) none)
    (match callf f (fs ++ (avs ++ cs)) ob with
      | some (r, ob1, tm) => some (r, .from tm, ob1, (x, .fn (.func f) fs cs) :: xs)
      | none => none)
  | _, _ => none
/-- one operation -/
def exec (P : Program) (callf : FuncId → List AV → List Ob → Option (AV × List Ob × Nat)) (pu : FuncId → Bool) (ev : Operand → Option AV) (o : Oper) (ob : List Ob) : Option Out :=
  match o.op with
  | .move x => match ev x with
    | some av => some (av, .pure, ob, [(x, av)])
    | none => none
  | .assign x => match ev x with
    | some av => some (av, .pure, ob, [(x, av)])
    | none => none
  | .pick c a b => match ev c, ev a, ev b with
    | some (.v (.bool t)), some u, some v => some (cond t u v, .pure, ob, [(c, .v (.bool t)), (a, u), (b, v)])
    | _, _, _ => none
  | .alloc T => match zer P T with
    | some zs => some (.pt ob.length 0, .from ob.length, ob ++ [.box (zs.map .v)], [])
    | none => none
  | .box _T x => match ev x with
    | some av => match acells av with
      | some cs => some (.pt ob.length 0, .from ob.length, ob ++ [.box cs], [(x, av)])
      | none => none
    | none => none
  | .build t ps => match flds P t, evPE ev ps.toList with
    | some (pl, zs), some (avs, xs) => match fillA pl (zs.map .v) avs with
      | some cells => some (.ag cells, .pure, ob, xs)
      | none => none
    | _, _ => none
  | .buildSlice t len ps => match slk P t, evPE ev ps.toList with
    | some (e, S, _), some (avs, xs) => match zer P e, rowsOf S 0 avs with
      | some _, some rows => cond (Nat.beq avs.length len && Nat.ble (len * S) (2 ^ 24) && Nat.ble len maxLen) (some (.sr ob.length S 0 len, .from ob.length, ob ++ [.row e S rows], xs)) none
      | _, _ => none
    | _, _ => none
  | .load t x => loadE P ev t x ob
  | .store t p x => storeE P ev t p x ob
  | .nilCheck x => match ev x with
    | some (.pt p q) => some (.pt p q, .pure, ob, [(x, .pt p q)])
    | some (.pf cs) => some (.pf cs, .pure, ob, [(x, .pf cs)])
    | _ => none
  | .fieldAddr s x f => match fld P s f, ev x with
    | some off, some (.pt p q) => some (.pt p (q + off), .pure, ob, [(x, .pt p q)])
    | some off, some (.pf cs) => some (.pf (cs.drop off), .pure, ob, [(x, .pf cs)])
    | _, _ => none
  | .indexAddr t x i => match slk P t, ev x, ev i with
    | some (_, S, _), some (.sl S' rows), some (.v (.int q (.ofNat z))) => cond (Nat.beq S' S) (match rows[z]? with
      | some row => some (.pf row, .pure, ob, [(x, .sl S rows), (i, .v (.int q (.ofNat z)))])
      | none => none) none
    | some (_, S, _), some (.sr p S' lo len), some (.v (.int q (.ofNat z))) => cond (Nat.beq S' S && Nat.blt z len) (some (.pt p (lo * S + z * S), .pure, ob, [(x, .sr p S lo len), (i, .v (.int q (.ofNat z)))])) none
    | _, _, _ => none
  | .slice t x lo hi mo => sliceE P ev t x lo hi mo ob
  | .makeMap _t none => some (.mp ob.length, .from ob.length, ob ++ [.mp [] []], [])
  | .makeSlice t x y => match slk P t, ev x, ev y with
    | some (e, S, B), some (.v (.int kl (.ofNat a))), some (.v (.int kc (.ofNat c))) => match zer P e with
      | some zs => cond (Nat.beq zs.length S && Nat.blt 0 S && Nat.ble a c && Nat.ble (B * c) 281474976710656 && Nat.ble c maxLen) (some (.sr ob.length S 0 a, .from ob.length, ob ++ [.row e S (List.replicate a (zs.map .v))], [(x, .v (.int kl (.ofNat a))), (y, .v (.int kc (.ofNat c)))])) none
      | none => none
    | _, _, _ => none
  | .mapUpdate t x y z => mapPutE P ev t x y z ob
  | .insert t x y z => mapPutE P ev t x y z ob
  | .lookup t x y ok => match mapGetE P ev t x y ok ob with
    | some r => some r
    | none => plainE P ev o ob
  | .convert s d x => match b2sE P ev s d x ob with
    | some r => some r
    | none => match conv8E P ev s d x ob with
      | some r => some r
      | none => plainE P ev o ob
  | .makeInterface t x => match isIfaceT P t, ev x with
    | some false, some av => some (.ifc t av, .pure, ob, [(x, av)])
    | _, _ => none
  | .makeFunc f fs cs => match evAE ev fs.toList, evAE ev cs.toList with
    | some (as, xs), some (bs, ys) => some (.fn f as bs, .pure, ob, xs ++ ys)
    | _, _ => none
  | .extract x i => match ev x with
    | some (.tu vs) => match vs[i]? with
      | some av => some (av, .pure, ob, [(x, .tu vs)])
      | none => none
    | _ => none
  | .binOp op t x y _ => match strE ev op x y ob with
    | some r => some r
    | none => match nnE P ev op t x y ob with
      | some r => some r
      | none => plainE P ev o ob
  | .call c => match c.callee, c.args.toList, c.argTypes.toList with
    | .value f, args, _ => callE callf pu ev f args ob
    | .builtin .append, [x, y], [t, tx] => appendE P ev t tx x y ob
    | .builtin .len, [x], [t] => match lenE P ev t x ob with
      | some r => some r
      | none => plainE P ev o ob
    | .builtin _, _, _ => plainE P ev o ob
    | _, _, _ => none
  | _ => plainE P ev o ob
end Go.Am
