/-
  An abstract machine, part R: a program that runs the operations by itself, and that it is right.
-/
import Derived.Test.YtobehholoenaiaaGreatDoorAmFe
import Derived.Test.YtobehholoenaiaaGreatDoorAmBd
import Derived.Test.YtobehholoenaiaaGreatDoorAmFrz
namespace Go.Am

/-- what an operation does to the objects -/
inductive Dl where
  | keep
  | set (k : Nat) (X : Ob)
  | push (X : Ob)
  | kpush (k : Nat) (X : Ob)
def Dl.app (ob : List Ob) : Dl → List Ob
  | .keep => ob
  | .set k X => ob.set k X
  | .push X => ob ++ [X]
  | .kpush k X => ob.set k .dead ++ [X]
def frzL (t d : Nat) : List (Nat × Nat) → Bool
  | [] => false
  | (a, b) :: l => cond (Nat.beq a t && Nat.beq b d) true (frzL t d l)
def frzB (t : TypeId) : Option Nat → Bool
  | some d => frzL t d frzT
  | none => false
abbrev Out := AV × Kd × Dl × List (Operand × AV)
def evPE (ev : Operand → Option AV) : List (Nat × Operand) → Option (List (Nat × AV) × List (Operand × AV))
  | [] => some ([], [])
  | (i, x) :: r => match ev x with
    | some av => match evPE ev r with
      | some (as, xs) => some ((i, av) :: as, (x, av) :: xs)
      | none => none
    | none => none
def evAE (ev : Operand → Option AV) : List Operand → Option (List AV × List (Operand × AV))
  | [] => some ([], [])
  | x :: r => match ev x with
    | some av => match evAE ev r with
      | some (as, xs) => some (av :: as, (x, av) :: xs)
      | none => none
    | none => none
theorem evPE_spec {L : Loc} : ∀ {ps : List (Nat × Operand)} {as : List (Nat × AV)} {xs : List (Operand × AV)}, evPE (aeval L) ps = some (as, xs) → EvP L ps as xs
  | [], as, xs, h => by simp only [evPE, Option.some.injEq, Prod.mk.injEq] at h; obtain ⟨rfl, rfl⟩ := h; exact .nil
  | (i, x) :: r, as, xs, h => by
    simp only [evPE] at h
    cases hx : aeval L x with
    | none => simp [hx] at h
    | some av =>
      cases hr : evPE (aeval L) r with
      | none => simp [hx, hr] at h
      | some p =>
        obtain ⟨bs, ys⟩ := p
        simp only [hx, hr, Option.some.injEq, Prod.mk.injEq] at h
        obtain ⟨rfl, rfl⟩ := h
        exact .cons hx (evPE_spec hr)
theorem evAE_spec {L : Loc} : ∀ {ps : List Operand} {as : List AV} {xs : List (Operand × AV)}, evAE (aeval L) ps = some (as, xs) → EvA L ps as xs
  | [], as, xs, h => by simp only [evAE, Option.some.injEq, Prod.mk.injEq] at h; obtain ⟨rfl, rfl⟩ := h; exact .nil
  | x :: r, as, xs, h => by
    simp only [evAE] at h
    cases hx : aeval L x with
    | none => simp [hx] at h
    | some av =>
      cases hr : evAE (aeval L) r with
      | none => simp [hx, hr] at h
      | some p =>
        obtain ⟨bs, ys⟩ := p
        simp only [hx, hr, Option.some.injEq, Prod.mk.injEq] at h
        obtain ⟨rfl, rfl⟩ := h
        exact .cons hx (evAE_spec hr)
/-- a bound of a piece -/
def bdE (ev : Operand → Option AV) (d : Nat) : Option Operand → Option (Nat × List (Operand × AV))
  | none => some (d, [])
  | some x => match ev x with
    | some (.v (.int q (.ofNat k))) => some (k, [(x, .v (.int q (.ofNat k)))])
    | _ => none
theorem bdE_spec {L : Loc} {d : Nat} {x : Option Operand} {k : Nat} {xs : List (Operand × AV)} (h : bdE (aeval L) d x = some (k, xs)) : Bd L d x k xs := by
  cases x with
  | none => simp only [bdE, Option.some.injEq, Prod.mk.injEq] at h; obtain ⟨rfl, rfl⟩ := h; exact .non
  | some x =>
    simp only [bdE] at h
    split at h
    · rename_i q j hx
      simp only [Option.some.injEq, Prod.mk.injEq] at h
      obtain ⟨rfl, rfl⟩ := h
      exact .num (z := .ofNat j) hx (Int.natCast_nonneg j)
    · cases h

def plainE (P : Program) (ev : Operand → Option AV) (o : Oper) (_gs : Nat → Option Ob) (_N : Nat) : Option Out :=
  match opArgs o.op with
  | some xs => cond (plainOk ev xs) (match plainS P (execOp (argV ev) o) with
    | some (.value r) => some (ofV r, .pure, .keep, xs.map (argPair ev))
    | _ => none) none
  | none => none
def strE (ev : Operand → Option AV) (op : BinOp) (x y : Operand) (_gs : Nat → Option Ob) (_N : Nat) : Option Out :=
  match op, ev x, ev y with
  | .eql, some (.v (.string a)), some (.v (.string b)) => some (.v (.bool (beqL a.data.toList b.data.toList)), .pure, .keep, [(x, .v (.string a)), (y, .v (.string b))])
  | .neq, some (.v (.string a)), some (.v (.string b)) => some (.v (.bool (!beqL a.data.toList b.data.toList)), .pure, .keep, [(x, .v (.string a)), (y, .v (.string b))])
  | _, _, _ => none
/-- two structs of plain fields -/
def structE (P : Program) (ev : Operand → Option AV) (op : BinOp) (t : TypeId) (x y : Operand) (_gs : Nat → Option Ob) (_N : Nat) : Option Out :=
  match ev x, ev y with
  | some (.ag cs), some (.ag ds) => match fk P t, plains cs, plains ds with
    | some os, some xs, some ys => match eqS os xs ys with
      | some b => match op with
        | .eql => some (.v (.bool b), .pure, .keep, [(x, .ag cs), (y, .ag ds)])
        | .neq => some (.v (.bool (!b)), .pure, .keep, [(x, .ag cs), (y, .ag ds)])
        | _ => none
      | none => none
    | _, _, _ => none
  | _, _ => none
def nnE (P : Program) (ev : Operand → Option AV) (op : BinOp) (t : TypeId) (x y : Operand) (_gs : Nat → Option Ob) (_N : Nat) : Option Out :=
  match ev x, ev y with
  | some av, some (.v z) => match notNil [] av with
    | k + 1 => cond (Nat.beq (nilKind z) (k + 1) && Nat.beq (kindT P t) (k + 1)) (match op with
      | .eql => some (.v (.bool false), .pure, .keep, [(x, av), (y, .v z)])
      | .neq => some (.v (.bool true), .pure, .keep, [(x, av), (y, .v z)])
      | _ => none) none
    | 0 => none
  | _, _ => none
def loadE (P : Program) (ev : Operand → Option AV) (t : TypeId) (x : Operand) (gs : Nat → Option Ob) (_N : Nat) : Option Out :=
  match ev x, tyk P t with
  | some (.pt o off), some (g, k) => match gs o with
    | some (.box Tb cells) => match g with
      | true => cond (Nat.ble (off + k) cells.length) (some (.ag ((cells.drop off).take k), .rd o (.box Tb cells), .keep, [(x, .pt o off)])) none
      | false => match cells[off]? with
        | some c => some (c, .rd o (.box Tb cells), .keep, [(x, .pt o off)])
        | none => none
    | some (.row E S rows) => match rows[off / S]? with
      | some row => match g with
        | true => cond (Nat.ble (off % S + k) S) (some (.ag ((row.drop (off % S)).take k), .rd o (.row E S rows), .keep, [(x, .pt o off)])) none
        | false => match row[off % S]? with
          | some c => some (c, .rd o (.row E S rows), .keep, [(x, .pt o off)])
          | none => none
      | none => none
    | _ => none
  | some (.pf cs), some (g, k) => match g with
    | true => cond (Nat.ble k cs.length) (some (.ag (cs.take k), .pure, .keep, [(x, .pf cs)])) none
    | false => match cs with
      | c :: cs' => some (c, .pure, .keep, [(x, .pf (c :: cs'))])
      | [] => none
  | _, _ => none
def storeE (P : Program) (ev : Operand → Option AV) (t : TypeId) (p x : Operand) (gs : Nat → Option Ob) (_N : Nat) : Option Out :=
  match ev p, ev x, tyk P t with
  | some (.pt o off), some av, some (_g, k) => match acells av with
    | some cs => cond (Nat.beq cs.length k) (match gs o with
      | some (.box Tb cells) => cond (Nat.ble (off + k) cells.length) (some (.any, .st o (.box Tb cells) (.box Tb (spl cells off cs)), .set o (.box Tb (spl cells off cs)), [(p, .pt o off), (x, av)])) none
      | some (.row E S rows) => match rows[off / S]? with
        | some row => cond (Nat.ble (off % S + k) S) (some (.any, .st o (.row E S rows) (.row E S (rows.set (off / S) (splice row (off % S) cs))), .set o (.row E S (rows.set (off / S) (splice row (off % S) cs))), [(p, .pt o off), (x, av)])) none
        | none => none
      | _ => none) none
    | none => none
  | _, _, _ => none
def sliceE (P : Program) (ev : Operand → Option AV) (t : TypeId) (x : Operand) (lo hi mo : Option Operand) (_gs : Nat → Option Ob) (N : Nat) : Option Out :=
  match slk P t, ev x with
  | some (e, S, _), some av => match lenA av with
    | some len => match bdE ev 0 lo, bdE ev len hi, bdE ev 0 mo with
      | some (p, xl), some (q, xh), some (mx, xm) =>
        cond (Nat.ble p q && Nat.ble q len) (match mo with
        | none => match av with
          | .sl S' rows => cond (Nat.beq S' S) (some (.sl S ((rows.drop p).take (q - p)), .pure, .keep, xl ++ (xh ++ [(x, .sl S rows)]))) none
          | .sr o S' l0 len' => cond (Nat.beq S' S) (some (.sr o S (l0 + p) (q - p), .pure, .keep, xl ++ (xh ++ (xm ++ [(x, .sr o S l0 len')])))) none
          | _ => none
        | some _ => match hi with
          | none => none
          | some _ => cond (Nat.beq p q && Nat.beq p mx) (some (.sr N S 0 0, .from N, .push (.row e S []), xl ++ (xh ++ (xm ++ [(x, av)])))) (match av with
            | .sr o S' l0 len' => cond (Nat.beq S' S && (Nat.ble q mx && Nat.ble mx len) && !Nat.beq mx p) (some (.sr o S (l0 + p) (q - p), .pure, .keep, xl ++ (xh ++ (xm ++ [(x, .sr o S l0 len')])))) none
            | _ => none)) none
      | _, _, _ => none
    | none => none
  | _, _ => none
def srcG (gs : Nat → Option Ob) (S : Nat) : AV → Option (List (List AV))
  | .sl S' new => cond (Nat.beq S' S) (some new) none
  | .sr o S' lo len => match gs o with
    | some (.row _ S2 rows) => cond (Nat.beq S' S && Nat.beq S2 S && Nat.ble (lo + len) rows.length) (some ((rows.drop lo).take len)) none
    | _ => none
  | .v (.slice _ 0 _) => some []
  | .v (.string s) => cond (Nat.beq S 1) (some (s.data.toList.map fun b => [.v (.int .u8 b.toNat)])) none
  | _ => none
theorem srcG_eq (ob : List Ob) (S : Nat) (av : AV) : srcG (fun i => ob[i]?) S av = srcA ob S av := by
  cases av with
  | sr o S' lo len =>
    simp only [srcG, srcA]
    cases ob[o]? with
    | none => rfl
    | some X => cases X <;> rfl
  | v x => cases x <;> first | rfl | (rename_i a _ _; cases a <;> rfl)
  | _ => rfl
def dstE (gs : Nat → Option Ob) (e : TypeId) (S : Nat) : AV → Option (Nat × List (List AV) × Option Nat)
  | .v (.slice none 0 0) => some (0, [], none)
  | .cl S' rows => cond (Nat.beq S' S) (some (rows.length, rows, none)) none
  | .sr o S' 0 k => match gs o with
    | some (.row e' S2 rows) => cond (Nat.beq S' S && Nat.beq S2 S && Nat.beq e' e && Nat.ble k rows.length) (some (k, rows, some o)) none
    | _ => none
  | _ => none
def dlOf (X : Ob) : Option Nat → Dl
  | none => .push X
  | some o => .kpush o X
def killB (N : Nat) : Option Nat → Nat
  | none => bit N
  | some o => Nat.lor (bit o) (bit N)
def killed (ob : List Ob) : Option Nat → List Ob
  | none => ob
  | some o => ob.set o .dead
theorem killB_get {ob : List Ob} {X : Ob} {d : Option Nat} {i : Nat} (h : tb (killB ob.length d) i = false) : (killed ob d ++ [X])[i]? = ob[i]? := by
  have key : ∀ l : List Ob, l.length = ob.length → l[i]? = ob[i]? → i ≠ ob.length → (l ++ [X])[i]? = ob[i]? := by
    intro l hl h1 h2
    by_cases hi : i < ob.length
    · rw [List.getElem?_append_left (by omega)]; exact h1
    · rw [List.getElem?_eq_none (by simp; omega), List.getElem?_eq_none (by omega)]
  cases d with
  | none => exact key ob rfl rfl fun e => un_bit h e.symm
  | some o =>
    have h' : tb (Nat.lor (bit o) (bit ob.length)) i = false := h
    rw [tb_lor, Bool.or_eq_false_iff] at h'
    exact key (ob.set o .dead) (List.length_set ..) (List.getElem?_set_ne (un_bit h'.1)) fun e => un_bit h'.2 e.symm
theorem dlOf_app (ob : List Ob) (X : Ob) (d : Option Nat) : (dlOf X d).app ob = killed ob d ++ [X] := by cases d <;> rfl
theorem dstE_spec {ob : List Ob} {e : TypeId} {S : Nat} {av : AV} {k : Nat} {rows : List (List AV)} {d : Option Nat} (h : dstE (fun i => ob[i]?) e S av = some (k, rows, d)) : Dst ob e S av k rows (killed ob d) := by
  unfold dstE at h
  split at h
  · simp only [Option.some.injEq, Prod.mk.injEq] at h; obtain ⟨rfl, rfl, rfl⟩ := h; exact .none
  · rename_i S' rows'
    cases hc : Nat.beq S' S with
    | false => rw [hc] at h; cases h
    | true =>
      rw [hc] at h
      have := Nat.eq_of_beq_eq_true hc
      subst this
      cases h
      exact .cl
  · rename_i o S' k'
    split at h
    · rename_i e' S2 rows' ho
      cases hc : Nat.beq S' S && Nat.beq S2 S && Nat.beq e' e && Nat.ble k' rows'.length with
      | false => simp [hc] at h
      | true =>
        simp only [hc, cond_true, Option.some.injEq, Prod.mk.injEq] at h
        simp only [Bool.and_eq_true] at hc
        obtain ⟨rfl, rfl, rfl⟩ := h
        have q1 := Nat.eq_of_beq_eq_true hc.1.1.1
        have q2 := Nat.eq_of_beq_eq_true hc.1.1.2
        have q3 := Nat.eq_of_beq_eq_true hc.1.2
        subst q1; subst q2; subst q3
        exact .row ho (Nat.le_of_ble_eq_true hc.2)
    · cases h
  · cases h
def appendE (P : Program) (ev : Operand → Option AV) (t tx : TypeId) (x y : Operand) (gs : Nat → Option Ob) (N : Nat) : Option Out :=
  match slk P t, ev x, ev y with
  | some (e, S, B), some avx, some avy => match zer P e, dstE gs e S avx, srcG gs S avy with
    | some zs, some (k, rows, d), some new =>
      cond (Nat.beq zs.length S && srcT P tx avy && rowsOne new && Nat.ble ((k + new.length) * B) 140737488355328 && Nat.ble (k + new.length) 9223372036854775807 && clB avx new)
        (some (.sr N S 0 (k + new.length), .chg (killB N d), dlOf (.row e S (rows.take k ++ new)) d, [(x, avx), (y, avy)])) none
    | _, _, _ => none
  | _, _, _ => none
def appendZE (P : Program) (ev : Operand → Option AV) (t tx : TypeId) (x y : Operand) (N : Nat) : Option Out :=
  match slk P t, ev x, ev y, P.underlying tx with
  | some (e, S, B), some (.v (.slice none 0 0)), some (.v (.int .i64 (.ofNat k))), some (.int _) => match zer P e with
    | some zs => cond (Nat.beq zs.length S && Nat.blt 0 S && Nat.blt 0 k && Nat.ble (k * B) 140737488355328 && Nat.ble k 9223372036854775807)
        (some (.sr N S 0 k, .from N, .push (.row e S (List.replicate k (zs.map .v))), [(x, .v (.slice none 0 0)), (y, .v (.int .i64 k))])) none
    | none => none
  | _, _, _, _ => none
def lenE (P : Program) (ev : Operand → Option AV) (t : TypeId) (x : Operand) (_gs : Nat → Option Ob) (_N : Nat) : Option Out :=
  match slk P t, ev x with
  | some _, some av => match lenA av with
    | some k => some (.v (.int .i64 k), .pure, .keep, [(x, av)])
    | none => none
  | _, _ => none
def mapPutWE (P : Program) (ev : Operand → Option AV) (t : TypeId) (x y z : Operand) (gs : Nat → Option Ob) : Option Out :=
  match mapT P t, ev x, ev y, ev z with
  | some (kt, _, _), some (.mp o), some (.ag cs), some av => cond (lawB P kt) (match gs o, plainV (.ag cs) with
    | some (.mp keys vals), some k => cond (keyW P kt k && keys.all (keyW P kt)) (match kfindV k keys with
      | some i => some (.any, .st o (.mp keys vals) (mput keys vals k av i), .set o (mput keys vals k av i), [(x, .mp o), (y, .ag cs), (z, av)])
      | none => none) none
    | _, _ => none) none
  | _, _, _, _ => none
def mapGetWE (P : Program) (ev : Operand → Option AV) (t : TypeId) (x y : Operand) (ok : Bool) (gs : Nat → Option Ob) : Option Out :=
  match mapT P t, ev x, ev y with
  | some (kt, vt, _), some (.mp o), some (.ag cs) => cond (lawB P kt) (match gs o, plainV (.ag cs), plainS P (zeroValue vt) with
    | some (.mp keys vals), some k, some z => cond (keyW P kt k && keys.all (keyW P kt)) (match kfindV k keys with
      | some i => match mgetA vals (ofV z) i with
        | some av => some (cond ok (.tu [av, .v (.bool (okA i))]) av, .rd o (.mp keys vals), .keep, [(x, .mp o), (y, .ag cs)])
        | none => none
      | none => none) none
    | _, _, _ => none) none
  | _, _, _ => none
def mapPutE (P : Program) (ev : Operand → Option AV) (t : TypeId) (x y z : Operand) (gs : Nat → Option Ob) (_N : Nat) : Option Out :=
  match mapT P t, ev x, ev y, ev z with
  | some (_, _, d), some (.mp o), some (.v k), some av => match gs o with
    | some (.mp keys vals) => cond (isKeyB d k && keys.all (isKeyB d)) (match kfind d k keys with
      | some i => some (.any, .st o (.mp keys vals) (mput keys vals k av i), .set o (mput keys vals k av i), [(x, .mp o), (y, .v k), (z, av)])
      | none => none) none
    | _ => none
  | _, _, _, _ => mapPutWE P ev t x y z gs
def mapGetE (P : Program) (ev : Operand → Option AV) (t : TypeId) (x y : Operand) (ok : Bool) (gs : Nat → Option Ob) (_N : Nat) : Option Out :=
  match mapT P t, ev x, ev y with
  | some (_, vt, d), some (.mp o), some (.v k) => match gs o, plainS P (zeroValue vt) with
    | some (.mp keys vals), some z => cond (isKeyB d k) (match kfind d k keys with
      | some i => match mgetA vals (ofV z) i with
        | some av => some (cond ok (.tu [av, .v (.bool (okA i))]) av, .rd o (.mp keys vals), .keep, [(x, .mp o), (y, .v k)])
        | none => none
      | none => none) none
    | _, _ => none
  | _, _, _ => mapGetWE P ev t x y ok gs
def b2sE (P : Program) (ev : Operand → Option AV) (s d : TypeId) (x : Operand) (gs : Nat → Option Ob) (_N : Nat) : Option Out :=
  match ev x with
  | some (.v (.string _)) => none
  | some av => cond (strT P s d) (match srcG gs 1 av with
    | some new => match plains new.flatten with
      | some vs => match bytesOf vs with
        | some zs => cond (rowsOne new) (some (.v (.string (mkString zs)), .read, .keep, [(x, av)])) none
        | none => none
      | none => none
    | none => none) none
  | none => none
def s2bE (P : Program) (ev : Operand → Option AV) (dst : Option Nat) (s d : TypeId) (x : Operand) (_gs : Nat → Option Ob) (N : Nat) : Option Out :=
  match ev x, slk P d with
  | some (.v (.string q)), some (e, 1, _) => cond (strT P d s && Nat.ble q.size maxLen) (cond (frzB d dst) (some (.sl 1 (byteRows q), .pure, .keep, [(x, .v (.string q))])) (some (.sr N 1 0 q.size, .from N, .push (.row e 1 (byteRows q)), [(x, .v (.string q))]))) none
  | _, _ => none
def r2sE (P : Program) (ev : Operand → Option AV) (s d : TypeId) (x : Operand) (gs : Nat → Option Ob) (_N : Nat) : Option Out :=
  match ev x with
  | some (.v (.string _)) => none
  | some av => cond (runeT P s d) (match srcG gs 1 av with
    | some new => match plains new.flatten with
      | some vs => match runesOf vs with
        | some zs => cond (rowsOne new) (some (.v (.string ⟨zs.toArray⟩), .read, .keep, [(x, av)])) none
        | none => none
      | none => none
    | none => none) none
  | none => none
def conv8E (P : Program) (ev : Operand → Option AV) (s d : TypeId) (x : Operand) (gs : Nat → Option Ob) (_N : Nat) : Option Out :=
  match ev x with
  | some (.sr o 1 0 len) => match gs o with
    | some (.row E 1 rows) => cond (conv8 P s d && Nat.blt 0 len) (some (.sr o 1 0 len, .st o (.row E 1 rows) (.row E 1 rows), .set o (.row E 1 rows), [(x, .sr o 1 0 len)])) none
    | _ => none
  | _ => none
def arrIE (P : Program) (ev : Operand → Option AV) (t : TypeId) (x i : Operand) : Option Out :=
  match arK P t, ev x, ev i with
  | some (len, _, S), some (.pt p q), some (.v (.int k (.ofNat z))) => cond (Nat.blt z len) (some (.pt p (q + z * S), .pure, .keep, [(x, .pt p q), (i, .v (.int k (.ofNat z)))])) none
  | some (len, _, S), some (.pf cs), some (.v (.int k (.ofNat z))) => cond (Nat.blt z len) (some (.pf (cs.drop (z * S)), .pure, .keep, [(x, .pf cs), (i, .v (.int k (.ofNat z)))])) none
  | _, _, _ => none
def indexE (P : Program) (ev : Operand → Option AV) (t : TypeId) (x i : Operand) : Option Out :=
  match arK P t, ev x, ev i with
  | some (len, e, _), some (.ag cs), some (.v (.int k (.ofNat z))) => match tyk P e with
    | some (g, S) => cond (Nat.blt z len) (match g with
      | true => cond (Nat.ble (z * S + S) cs.length) (some (.ag ((cs.drop (z * S)).take S), .pure, .keep, [(x, .ag cs), (i, .v (.int k (.ofNat z)))])) none
      | false => match cs[z * S]? with
        | some c => some (c, .pure, .keep, [(x, .ag cs), (i, .v (.int k (.ofNat z)))])
        | none => none) none
    | none => none
  | _, _, _ => none
def assertE (P : Program) (ev : Operand → Option AV) (x : Operand) (_xt at' : TypeId) (ok : Bool) : Option Out :=
  match isIfaceT P at', ev x with
  | some false, some (.ifc t av) => cond (Nat.beq t at') (some (cond ok (.tu [av, .v (.bool true)]) av, .pure, .keep, [(x, .ifc t av)]))
    (match ok, plainS P (zeroValue at') with
      | true, some z => some (.tu [ofV z, .v (.bool false)], .pure, .keep, [(x, .ifc t av)])
      | _, _ => none)
  | some false, some (.v .nilIface) => match ok, plainS P (zeroValue at') with
    | true, some z => some (.tu [ofV z, .v (.bool false)], .pure, .keep, [(x, .v .nilIface)])
    | _, _ => none
  | _, _ => none
/-- one operation -/
def unsE (P : Program) (ev : Operand → Option AV) (s d : TypeId) (x : Operand) (gs : Nat → Option Ob) : Option Out :=
  match ev x with
  | some (.pt o off) => match gs o with
    | some (.box Tb cells) => cond (toUB P s d && Nat.blt off cells.length) (some (.pt o off, .rd o (.box Tb cells), .keep, [(x, .pt o off)])) (cond (fromUB P s d Tb cells.length off) (some (.pt o off, .rd o (.box Tb cells), .keep, [(x, .pt o off)])) none)
    | _ => none
  | _ => none
def ptrE (P : Program) (ev : Operand → Option AV) (op : BinOp) (t : TypeId) (x y : Operand) : Option Out :=
  match op, ev x, ev y with
  | .neq, some (.pt o off), some (.pt o2 off2) => cond (Nat.beq o o2 && Nat.beq off off2 && ptrT P t) (some (.v (.bool false), .pure, .keep, [(x, .pt o off), (y, .pt o off)])) none
  | _, _, _ => none
def sdataE (ev : Operand → Option AV) (x : Operand) : Option Out :=
  match ev x with
  | some (.sr o 1 lo len) => cond (Nat.blt 0 len) (some (.pt o lo, .pure, .keep, [(x, .sr o 1 lo len)])) none
  | _ => none
def ustrE (P : Program) (ev : Operand → Option AV) (pt : TypeId) (x y : Operand) (gs : Nat → Option Ob) : Option Out :=
  match P.underlying pt, ev x, ev y with
  | some (.pointer e), some (.pt o 0), some (.v (.int .i64 (.ofNat k))) => match gs o with
    | some (.row e2 1 rows) => cond (Nat.beq e2 e && Nat.beq (P.cellsOf e) 1 && Nat.ble k rows.length && Nat.blt 0 k && Nat.ble k 9223372036854775807) (match plains (rows.take k).flatten with
      | some vs => match u8Of vs with
        | some bs => cond (Nat.beq bs.length k) (some (.v (.string ⟨bs.toArray⟩), .st o (.row e2 1 rows) .dead, .set o .dead, [(x, .pt o 0), (y, .v (.int .i64 k))])) none
        | none => none
      | none => none) none
    | _ => none
  | _, _, _ => none
def exec (P : Program) (ev : Operand → Option AV) (o : Oper) (gs : Nat → Option Ob) (N : Nat) : Option Out :=
  match o.op with
  | .move x => match ev x with
    | some av => some (av, .pure, .keep, [(x, av)])
    | none => none
  | .assign x => match ev x with
    | some av => some (av, .pure, .keep, [(x, av)])
    | none => none
  | .pick c a b => match ev c, ev a, ev b with
    | some (.v (.bool t)), some u, some v => some (cond t u v, .pure, .keep, [(c, .v (.bool t)), (a, u), (b, v)])
    | _, _, _ => none
  | .alloc T => match zer P T with
    | some zs => some (.pt N 0, .from N, .push (.box T (zs.map .v)), [])
    | none => none
  | .box T x => match ev x with
    | some av => match acells av with
      | some cs => cond (frzB T o.dst) (some (.pf cs, .pure, .keep, [(x, av)])) (some (.pt N 0, .from N, .push (.box T cs), [(x, av)]))
      | none => none
    | none => none
  | .build t ps => match fldA P t, evPE ev ps.toList with
    | some (pl, zs), some (avs, xs) => match fillA pl (zs.map .v) avs with
      | some cells => some (.ag cells, .pure, .keep, xs)
      | none => none
    | _, _ => none
  | .buildSlice t len ps => match slk P t, evPE ev ps.toList with
    | some (e, S, _), some (avs, xs) => match zer P e, rowsOf S 0 avs with
      | some _, some rows => cond (Nat.beq avs.length len && Nat.ble (len * S) (2 ^ 24) && Nat.ble len maxLen) (cond (frzB t o.dst) (some (.sl S rows, .pure, .keep, xs)) (some (.sr N S 0 len, .from N, .push (.row e S rows), xs))) none
      | _, _ => none
    | _, _ => none
  | .load t x => loadE P ev t x gs N
  | .store t p x => storeE P ev t p x gs N
  | .nilCheck x => match ev x with
    | some (.pt p q) => some (.pt p q, .pure, .keep, [(x, .pt p q)])
    | some (.pf cs) => some (.pf cs, .pure, .keep, [(x, .pf cs)])
    | _ => none
  | .fieldAddr s x f => match fld P s f, ev x with
    | some off, some (.pt p q) => some (.pt p (q + off), .pure, .keep, [(x, .pt p q)])
    | some off, some (.pf cs) => some (.pf (cs.drop off), .pure, .keep, [(x, .pf cs)])
    | _, _ => none
  | .indexAddr t x i => match slk P t, ev x, ev i with
    | some (_, S, _), some (.sl S' rows), some (.v (.int q (.ofNat z))) => cond (Nat.beq S' S) (match rows[z]? with
      | some row => some (.pf row, .pure, .keep, [(x, .sl S rows), (i, .v (.int q (.ofNat z)))])
      | none => none) none
    | some (_, S, _), some (.sr p S' lo len), some (.v (.int q (.ofNat z))) => cond (Nat.beq S' S && Nat.blt z len) (some (.pt p (lo * S + z * S), .pure, .keep, [(x, .sr p S lo len), (i, .v (.int q (.ofNat z)))])) none
    | _, _, _ => arrIE P ev t x i
  | .index t x i => match indexE P ev t x i with
    | some r => some r
    | none => plainE P ev o gs N
  | .typeAssert x xt at' ok => assertE P ev x xt at' ok
  | .slice t x lo hi mo => match sliceE P ev t x lo hi mo gs N with
    | some r => some r
    | none => plainE P ev o gs N
  | .makeMap _t none => some (.mp N, .from N, .push (.mp [] []), [])
  | .makeSlice t x y => match slk P t, ev x, ev y with
    | some (e, S, B), some (.v (.int kl (.ofNat a))), some (.v (.int kc (.ofNat c))) => match zer P e with
      | some zs => cond (Nat.beq zs.length S && Nat.blt 0 S && Nat.ble a c && Nat.ble (B * c) 281474976710656 && Nat.ble c maxLen) (some (.sr N S 0 a, .from N, .push (.row e S (List.replicate a (zs.map .v))), [(x, .v (.int kl (.ofNat a))), (y, .v (.int kc (.ofNat c)))])) none
      | none => none
    | _, _, _ => none
  | .mapUpdate t x y z => mapPutE P ev t x y z gs N
  | .insert t x y z => mapPutE P ev t x y z gs N
  | .lookup t x y ok => match mapGetE P ev t x y ok gs N with
    | some r => some r
    | none => plainE P ev o gs N
  | .convert s d x => match b2sE P ev s d x gs N with
    | some r => some r
    | none => match conv8E P ev s d x gs N with
      | some r => some r
      | none => match r2sE P ev s d x gs N with
        | some r => some r
        | none => match s2bE P ev o.dst s d x gs N with
          | some r => some r
          | none => match unsE P ev s d x gs with
            | some r => some r
            | none => plainE P ev o gs N
  | .makeInterface t x => match isIfaceT P t, ev x with
    | some false, some av => some (.ifc t av, .pure, .keep, [(x, av)])
    | _, _ => none
  | .makeFunc f fs cs => match evAE ev fs.toList, evAE ev cs.toList with
    | some (as, xs), some (bs, ys) => some (.fn f as bs, .pure, .keep, xs ++ ys)
    | _, _ => none
  | .extract x i => match ev x with
    | some (.tu vs) => match vs[i]? with
      | some av => some (av, .pure, .keep, [(x, .tu vs)])
      | none => none
    | _ => none
  | .binOp op t x y _ => match strE ev op x y gs N with
    | some r => some r
    | none => match structE P ev op t x y gs N with
      | some r => some r
      | none => match nnE P ev op t x y gs N with
        | some r => some r
        | none => match ptrE P ev op t x y with
          | some r => some r
          | none => plainE P ev o gs N
  | .call c => match c.callee, c.args.toList, c.argTypes.toList with
    | .builtin .append, [x, y], [t, tx] => match appendE P ev t tx x y gs N with
      | some r => some r
      | none => appendZE P ev t tx x y N
    | .builtin .len, [x], [t] => match lenE P ev t x gs N with
      | some r => some r
      | none => plainE P ev o gs N
    | .builtin .unsafeSliceData, [x], _ => match sdataE ev x with
      | some r => some r
      | none => plainE P ev o gs N
    | .builtin .unsafeString, [x, y], [pt, _] => match ustrE P ev pt x y gs with
      | some r => some r
      | none => plainE P ev o gs N
    | .builtin _, _, _ => plainE P ev o gs N
    | _, _, _ => none
  | _ => plainE P ev o gs N
/-! ### Operations of which it may be left open whether they can be done: what must be true for it, and what they give -/
def dstC (gs : Nat → Option Ob) (e : TypeId) (S : Nat) : AV → Option (Bool × Nat × List (List AV) × Option Nat)
  | .v (.slice none 0 0) => some (true, 0, [], none)
  | .cl S' rows => some (Nat.beq S' S, rows.length, rows, none)
  | .sr o S' 0 k => match gs o with
    | some (.row e' S2 rows) => some (Nat.beq S' S && Nat.beq S2 S && Nat.beq e' e && Nat.ble k rows.length, k, rows, some o)
    | _ => none
  | _ => none
theorem dstC_eq {gs : Nat → Option Ob} {e : TypeId} {S : Nat} {av : AV} {r : Nat × List (List AV) × Option Nat} (h : dstC gs e S av = some (true, r)) : dstE gs e S av = some r := by
  unfold dstC at h
  split at h
  · simp only [Option.some.injEq, Prod.mk.injEq, true_and] at h; rw [← h]; rfl
  · simp only [Option.some.injEq, Prod.mk.injEq] at h
    obtain ⟨hc, rfl⟩ := h
    simp only [dstE, hc, cond_true]
  · rename_i o S' k
    split at h
    · rename_i e' S2 rows ho
      simp only [Option.some.injEq, Prod.mk.injEq] at h
      obtain ⟨hc, rfl⟩ := h
      simp only [dstE, ho, hc, cond_true]
    · cases h
  · cases h
def srcC (gs : Nat → Option Ob) (S : Nat) : AV → Option (Bool × List (List AV))
  | .sr o S' lo len => match gs o with
    | some (.row _ S2 rows) => some (Nat.beq S' S && Nat.beq S2 S && Nat.ble (lo + len) rows.length, (rows.drop lo).take len)
    | _ => none
  | av => match srcG gs S av with
    | some new => some (true, new)
    | none => none
theorem srcC_eq {gs : Nat → Option Ob} {S : Nat} {av : AV} {new : List (List AV)} (h : srcC gs S av = some (true, new)) : srcG gs S av = some new := by
  unfold srcC at h
  split at h
  · rename_i o S' lo len
    split at h
    · rename_i e S2 rows ho
      simp only [Option.some.injEq, Prod.mk.injEq] at h
      obtain ⟨hc, rfl⟩ := h
      simp only [srcG, ho, hc, cond_true]
    · cases h
  · split at h
    · rename_i n hn
      simp only [Option.some.injEq, Prod.mk.injEq, true_and] at h
      rw [hn, h]
    · cases h
def appendC (P : Program) (ev : Operand → Option AV) (t tx : TypeId) (x y : Operand) (gs : Nat → Option Ob) (N : Nat) : Option (Bool × Out) :=
  match slk P t, ev x, ev y with
  | some (e, S, B), some avx, some avy => match zer P e, dstC gs e S avx, srcC gs S avy with
    | some zs, some (q, k, rows, d), some (q2, new) =>
      some (q && q2 && (Nat.beq zs.length S && srcT P tx avy && rowsOne new && Nat.ble ((k + new.length) * B) 140737488355328 && Nat.ble (k + new.length) 9223372036854775807 && clB avx new),
        (.sr N S 0 (k + new.length), .chg (killB N d), dlOf (.row e S (rows.take k ++ new)) d, [(x, avx), (y, avy)]))
    | _, _, _ => none
  | _, _, _ => none
def indexC (P : Program) (ev : Operand → Option AV) (t : TypeId) (x i : Operand) : Option (Bool × Out) :=
  match slk P t, ev x, ev i with
  | some (_, S, _), some (.sr p S' lo len), some (.v (.int q (.ofNat z))) => some (Nat.beq S' S && Nat.blt z len, (.pt p (lo * S + z * S), .pure, .keep, [(x, .sr p S lo len), (i, .v (.int q (.ofNat z)))]))
  | _, _, _ => none
/-- a piece of a slice, two bounds at most -/
def sliceC (P : Program) (ev : Operand → Option AV) (t : TypeId) (x : Operand) (lo hi : Option Operand) : Option (Bool × Out) :=
  match slk P t, ev x with
  | some (_, S, _), some av => match lenA av with
    | some len => match bdE ev 0 lo, bdE ev len hi with
      | some (p, xl), some (q, xh) => match av with
        | .sl S' rows => some ((Nat.ble p q && Nat.ble q len) && Nat.beq S' S, (.sl S ((rows.drop p).take (q - p)), .pure, .keep, xl ++ (xh ++ [(x, .sl S rows)])))
        | .sr o S' l0 len' => some ((Nat.ble p q && Nat.ble q len) && Nat.beq S' S, (.sr o S (l0 + p) (q - p), .pure, .keep, xl ++ (xh ++ ([] ++ [(x, .sr o S l0 len')]))))
        | _ => none
      | _, _ => none
    | none => none
  | _, _ => none
def chkE (P : Program) (ev : Operand → Option AV) (op : Op) (gs : Nat → Option Ob) (N : Nat) : Option (Bool × Out) := match op with
  | .indexAddr t x i => indexC P ev t x i
  | .slice t x lo hi none => sliceC P ev t x lo hi
  | .call c => match c.callee, c.args.toList, c.argTypes.toList with
    | .builtin .append, [x, y], [t, tx] => appendC P ev t tx x y gs N
    | _, _, _ => none
  | _ => none
theorem chkE_exec {P : Program} {ev : Operand → Option AV} {o : Oper} {gs : Nat → Option Ob} {N : Nat} {out : Out} (h : chkE P ev o.op gs N = some (true, out)) : exec P ev o gs N = some out := by
  obtain ⟨dst, op, ty, pos, after, guard⟩ := o
  unfold chkE at h
  simp only at h
  split at h
  · rename_i t x i
    unfold indexC at h
    split at h
    · rename_i e S B p S' lo len q z h1 h2 h3
      simp only [Option.some.injEq, Prod.mk.injEq] at h
      obtain ⟨hc, rfl⟩ := h
      simp only [exec, h1, h2, h3, hc, cond_true]
    · cases h
  · rename_i t x lo hi
    unfold sliceC at h
    split at h
    · rename_i e S B av h1 h2
      split at h
      · rename_i len h3
        split at h
        · rename_i p xl q xh h4 h5
          have h6 : bdE ev 0 none = some (0, []) := rfl
          split at h
          · rename_i S' rows
            simp only [Option.some.injEq, Prod.mk.injEq, Bool.and_eq_true] at h
            obtain ⟨⟨⟨c1, c2⟩, c3⟩, rfl⟩ := h
            simp only [exec, sliceE, h1, h2, h3, h4, h5, h6, c1, c2, c3, Bool.and_self, cond_true]
          · rename_i o S' l0 len'
            simp only [Option.some.injEq, Prod.mk.injEq, Bool.and_eq_true] at h
            obtain ⟨⟨⟨c1, c2⟩, c3⟩, rfl⟩ := h
            simp only [exec, sliceE, h1, h2, h3, h4, h5, h6, c1, c2, c3, Bool.and_self, cond_true]
          · cases h
        · cases h
      · cases h
    · cases h
  · rename_i c
    obtain ⟨callee, args, ts⟩ := c
    simp only at h
    split at h
    · rename_i x y t tx ha ht
      simp only [exec, ha, ht]
      unfold appendC at h
      split at h
      · rename_i e S B avx avy h1 h2 h3
        split at h
        · rename_i zs q k rows d q2 new g1 g2 g3
          simp only [Option.some.injEq, Prod.mk.injEq] at h
          obtain ⟨hc, rfl⟩ := h
          have hq : q = true := by cases q with | true => rfl | false => simp at hc
          have hq2 : q2 = true := by cases q2 with | true => rfl | false => simp at hc
          subst hq
          subst hq2
          simp only [Bool.true_and] at hc
          have g2' := dstC_eq g2
          have g3' := srcC_eq g3
          simp only [appendE, h1, h2, h3, g1, g2', g3', hc, cond_true]
        · cases h
      · cases h
    · cases h
  · cases h

/-- What a run may be told ahead: how a comparison turns out; which number an operation gives; which row stands at an index; which row, and from which cell on, a place in a live row is; that a piece of a frozen slice is cut with a third bound; which bytes a string gets; which value a conversion or one of Go's own functions gives; where a map has a key. -/
inductive Gi where
  | b (d : Bool)
  | int (z : Int)
  | row (r : List AV)
  | at (j f : Nat) (r : List AV)
  | cut
  | str (zs : List Int)
  | val (r : Value)
  | key (i : Option Nat) (av : AV)
noncomputable def dec (p : Prop) : Bool := @decide p (Classical.propDecidable p)
theorem dec_true {p : Prop} : dec p = true ↔ p := by
  unfold dec
  exact @decide_eq_true_iff p (Classical.propDecidable p)
noncomputable def hintE (P : Program) (ev : Operand → Option AV) (op : Op) (gs : Nat → Option Ob) (g : Gi) : Option (Bool × Out) := match op, g with
  | .indexAddr t x i, .row r => match slk P t, ev x, ev i with
    | some (_, S, _), some (.sl S' rows), some (.v (.int q (.ofNat z))) => some (Nat.beq S' S && dec (rows[z]? = some r), (.pf r, .pure, .keep, [(x, .sl S rows), (i, .v (.int q (.ofNat z)))]))
    | _, some (.pf cs), some (.v (.int q (.ofNat z))) => match arK P t with
      | some (len, _, S) => some (Nat.blt z len && dec (cs.drop (z * S) = r), (.pf r, .pure, .keep, [(x, .pf cs), (i, .v (.int q (.ofNat z)))]))
      | none => none
    | _, _, _ => none
  | .load t x, .at j f r => match ev x, tyk P t with
    | some (.pt o off), some (g, k) => match gs o with
      | some (.row E S rows) => match g with
        | true => some ((dec (off / S = j) && (dec (off % S = f) && dec (rows[j]? = some r))) && Nat.ble (f + k) S, (.ag ((r.drop f).take k), .rd o (.row E S rows), .keep, [(x, .pt o off)]))
        | false => match r[f]? with
          | some c => some (dec (off / S = j) && (dec (off % S = f) && dec (rows[j]? = some r)), (c, .rd o (.row E S rows), .keep, [(x, .pt o off)]))
          | none => none
      | _ => none
    | _, _ => none
  | .store t p x, .at j f r => match ev p, ev x, tyk P t with
    | some (.pt o off), some av, some (_, k) => match acells av, gs o with
      | some cs, some (.row E S rows) => some ((Nat.beq cs.length k && (dec (off / S = j) && (dec (off % S = f) && dec (rows[j]? = some r)))) && Nat.ble (f + k) S, (.any, .st o (.row E S rows) (.row E S (rows.set j (splice r f cs))), .set o (.row E S (rows.set j (splice r f cs))), [(p, .pt o off), (x, av)]))
      | _, _ => none
    | _, _, _ => none
  | _, _ => none
theorem hintE_exec {P : Program} {ev : Operand → Option AV} {o : Oper} {gs : Nat → Option Ob} {N : Nat} {g : Gi} {out : Out} (h : hintE P ev o.op gs g = some (true, out)) : exec P ev o gs N = some out := by
  obtain ⟨dst, op, ty, pos, after, guard⟩ := o
  unfold hintE at h
  simp only at h
  split at h
  · rename_i t x i r
    split at h
    · rename_i e S B S' rows q z h1 h2 h3
      simp only [Option.some.injEq, Prod.mk.injEq, Bool.and_eq_true] at h
      obtain ⟨⟨c1, c2⟩, rfl⟩ := h
      have c2 := dec_true.1 c2
      simp only [exec, h1, h2, h3, c1, c2, cond_true]
    · rename_i cs q z h2 h3
      split at h
      · rename_i len e S h1
        simp only [Option.some.injEq, Prod.mk.injEq, Bool.and_eq_true] at h
        obtain ⟨⟨c1, c2⟩, rfl⟩ := h
        have c2 := dec_true.1 c2
        subst c2
        cases hs : slk P t <;> simp only [exec, arrIE, hs, h1, h2, h3, c1, cond_true]
      · cases h
    · cases h
  · rename_i t x j f r
    split at h
    · rename_i o off g k h1 h2
      split at h
      · rename_i E S rows h3
        split at h
        · simp only [Option.some.injEq, Prod.mk.injEq, Bool.and_eq_true] at h
          obtain ⟨⟨⟨c1, c2, c3⟩, c4⟩, rfl⟩ := h
          have c1 := dec_true.1 c1
          have c2 := dec_true.1 c2
          have c3 := dec_true.1 c3
          simp only [exec, loadE, h1, h2, h3, c1, c2, c3, c4, cond_true]
        · split at h
          · rename_i c hc
            simp only [Option.some.injEq, Prod.mk.injEq, Bool.and_eq_true] at h
            obtain ⟨⟨c1, c2, c3⟩, rfl⟩ := h
            have c1 := dec_true.1 c1
            have c2 := dec_true.1 c2
            have c3 := dec_true.1 c3
            simp only [exec, loadE, h1, h2, h3, c1, c2, c3, hc]
          · cases h
      · cases h
    · cases h
  · rename_i t p x j f r
    split at h
    · rename_i o off av g k h1 h2 h3
      split at h
      · rename_i cs E S rows h4 h5
        simp only [Option.some.injEq, Prod.mk.injEq, Bool.and_eq_true] at h
        obtain ⟨⟨⟨c0, c1, c2, c3⟩, c4⟩, rfl⟩ := h
        have c1 := dec_true.1 c1
        have c2 := dec_true.1 c2
        have c3 := dec_true.1 c3
        simp only [exec, storeE, h1, h2, h3, h4, h5, c0, c1, c2, c3, c4, cond_true]
      · cases h
    · cases h
  · cases h

/-- the bytes that rows of one cell are -/
def StrOf (rows : List (List AV)) (zs : List Int) : Prop := rowsOne rows = true ∧ ∃ vs, plains rows.flatten = some vs ∧ bytesOf vs = some zs
def ConvP (P : Program) (s d : TypeId) (v r : Value) : Prop := plainS P (convert s d v) = some r
def CallP (P : Program) (b : Builtin) (ts : Array TypeId) (ty : TypeId) (fl : Array Bool) (vs : List Value) (r : Value) : Prop := plainS P (invoke (.builtin b ts ty fl) vs.toArray) = some (.value r)
def KeyP (d : TypeDesc) (k : Value) (keys : List Value) (i : Option Nat) : Prop := isKeyB d k = true ∧ keys.all (isKeyB d) = true ∧ kfind d k keys = some i
def isCst : Operand → Bool
  | .const _ => true
  | _ => false
def putE (P : Program) (ev : Operand → Option AV) (t : TypeId) (x y z : Operand) (gs : Nat → Option Ob) (i : Option Nat) (ask : Prop → Bool) : Option (Bool × Out) := match mapT P t, ev x, ev y, ev z with
  | some (_, _, d), some (.mp o), some (.v k), some av => match gs o with
    | some (.mp keys vals) => some (ask (KeyP d k keys i), (.any, .st o (.mp keys vals) (mput keys vals k av i), .set o (mput keys vals k av i), [(x, .mp o), (y, .v k), (z, av)]))
    | _ => none
  | _, _, _, _ => none
/-- operations whose outcome is told -/
noncomputable def askE (P : Program) (ev : Operand → Option AV) (ty : TypeId) (op : Op) (gs : Nat → Option Ob) (g : Gi) : Option (Bool × Out) := match op, g with
  | .slice t x lo (some hi) (some mo), .cut => match slk P t, ev x with
    | some (_, S, _), some (.sl S' rows) => match bdE ev 0 lo, bdE ev rows.length (some hi), bdE ev 0 (some mo) with
      | some (p, xl), some (q, xh), some (mx, xm) => some (Nat.beq S' S && dec (p ≤ q ∧ q = mx ∧ mx ≤ rows.length), (.cl S ((rows.drop p).take (q - p)), .pure, .keep, xl ++ (xh ++ (xm ++ [(x, .sl S rows)]))))
      | _, _, _ => none
    | _, _ => none
  | .convert s d x, .str zs => match ev x with
    | some (.sl 1 rows) => some (strT P s d && dec (StrOf rows zs), (.v (.string (mkString zs)), .read, .keep, [(x, .sl 1 rows)]))
    | _ => none
  | .convert s d x, .val r => match ev x with
    | some (.v v) => some (dec (ConvP P s d v r), (ofV r, .pure, .keep, [(x, .v v)]))
    | _ => none
  | .call c, .val r => match c.callee, c.args.toList with
    | .builtin b, [x] => match ev x with
      | some (.v v) => some (dec (CallP P b c.argTypes ty #[isCst x] [v] r), (ofV r, .pure, .keep, [(x, .v v)]))
      | _ => none
    | .builtin b, [x, y] => match ev x, ev y with
      | some (.v v), some (.v u) => some (dec (CallP P b c.argTypes ty #[isCst x, isCst y] [v, u] r), (ofV r, .pure, .keep, [(x, .v v), (y, .v u)]))
      | _, _ => none
    | _, _ => none
  | .mapUpdate t x y z, .key i _ => putE P ev t x y z gs i dec
  | .insert t x y z, .key i _ => putE P ev t x y z gs i dec
  | .lookup t x y ok, .key i av => match mapT P t, ev x, ev y with
    | some (_, vt, d), some (.mp o), some (.v k) => match gs o, plainS P (zeroValue vt) with
      | some (.mp keys vals), some z => some (dec (KeyP d k keys i ∧ mgetA vals (ofV z) i = some av), (cond ok (.tu [av, .v (.bool (okA i))]) av, .rd o (.mp keys vals), .keep, [(x, .mp o), (y, .v k)]))
      | _, _ => none
    | _, _, _ => none
  | _, _ => none
end Go.Am
