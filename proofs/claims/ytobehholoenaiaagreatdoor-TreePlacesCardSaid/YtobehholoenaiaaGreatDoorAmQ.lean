/-
  An abstract machine, part Q: bytes to strings, strings compared.
-/
import Derived.Test.YtobehholoenaiaaGreatDoorAmP
namespace Go.Am

/-- a row of bytes -/
def bytesOf : List Value → Option (List Int)
  | [] => some []
  | .int .u8 z :: r => match bytesOf r with
    | some zs => some (z :: zs)
    | none => none
  | _ :: _ => none
theorem bytesOf_spec : ∀ {vs : List Value} {zs : List Int}, bytesOf vs = some zs → vs = zs.map (Value.int .u8)
  | [], zs, h => by simp only [bytesOf, Option.some.injEq] at h; subst h; rfl
  | v :: vs, zs, h => by
    unfold bytesOf at h
    split at h
    · rename_i heq; cases heq
    · rename_i z r heq
      cases heq
      cases hr : bytesOf vs with
      | none => simp [hr] at h
      | some ys => simp only [hr, Option.some.injEq] at h; subst h; rw [bytesOf_spec hr]; rfl
    · cases h
def mkString (zs : List Int) : ByteArray := zs.foldl (fun r n => r.push (UInt8.ofNat n.toNat)) ByteArray.empty
def strT (P : Program) (src dst : TypeId) : Bool := match P.underlying src, P.underlying dst with
  | some (.slice e), some .string => match P.underlying e with
    | some (.int .u8) => true
    | _ => false
  | _, _ => false
def beqL : List UInt8 → List UInt8 → Bool
  | [], [] => true
  | a :: x, b :: y => cond (Nat.beq a.toNat b.toNat) (beqL x y) false
  | _, _ => false
theorem beqL_eq : ∀ x y : List UInt8, beqL x y = (x == y)
  | [], [] => rfl
  | [], _ :: _ => rfl
  | _ :: _, [] => rfl
  | a :: x, b :: y => by
    simp only [beqL, List.cons_beq_cons, beqL_eq x y]
    have : Nat.beq a.toNat b.toNat = (a == b) := by
      cases h : Nat.beq a.toNat b.toNat with
      | true =>
        have := Nat.eq_of_beq_eq_true h
        have e : a = b := UInt8.toNat_inj.1 this
        subst e; simp
      | false =>
        have := Nat.ne_of_beq_eq_false h
        have e : a ≠ b := fun e => this (by rw [e])
        simp [e]
    rw [this]
    cases a == b <;> simp
section
variable {P : Program} {n : Nat} {ops : Array Oper} {l : List Oper} {L : Loc} {ob : List Ob} {kf : List Rec → Loc → List Ob → Prop} {gu : Loc}
variable {dst : Option Nat} {ty : TypeId} {pos : String} {after : Array Edge} {guard : Option (Nat × Bool)}
theorem ev_b2s {x : Operand} {s d : TypeId} {av : AV} {new : List (List AV)} {vs : List Value} {zs : List Int} (ht : strT P s d = true) (hx : aeval L x = some av) (hns : ∀ q, av ≠ .v (.string q)) (hs : srcA ob 1 av = some new) (hp : plains new.flatten = some vs) (hb : bytesOf vs = some zs) (hone : rowsOne new = true) (hg : Gd ops L guard gu) (hn : ∀ d, dst = some d → d < n)
    (kk : EvK P n ops l (updL L dst (.v (.string (mkString zs))) []) ob (fun recs => kf (⟨dst, gu ++ uses [(x, av)], .v (.string (mkString zs)), [], .read⟩ :: recs))) :
    EvK P n ops (⟨dst, .convert s d x, ty, pos, after, guard⟩ :: l) L ob kf :=
  ev_val1 (o := ⟨dst, .convert s d x, ty, pos, after, guard⟩) [(x, av)] ⟨hx, trivial⟩ hg hn (fun m γ w a hi h => by
    have h1 := h.1
    have hu : ∃ e, P.underlying s = some (.slice e) ∧ P.underlying d = some .string ∧ P.underlying e = some (.int .u8) := by
      unfold strT at ht
      split at ht
      · rename_i e h1 h2
        split at ht
        · rename_i h3; exact ⟨e, h1, h2, h3⟩
        · cases ht
      · cases ht
    obtain ⟨e, u1, u2, u3⟩ := hu
    have hst : srcT P s av = true := by
      unfold srcT
      split
      · exact absurd rfl (hns _)
      · rw [u1]
    obtain ⟨news, k1, k2, k3⟩ := src_of hi h1 hs hst hone
    have hnv : news = zs.map (Value.int .u8) := by
      rw [plains_spec hp] at k2
      rw [rep_plains k2, bytesOf_spec hb]
    subst hnv
    refine ⟨.string (mkString zs), ?_, by simp [Rep]⟩
    have hlen := k1.len w
    have hc := k1.cells
    have hshape : ∃ ad ln c, a.eval x = .slice ad ln c := by
      cases av with
      | sl S rows => simp only [Rep] at h1; obtain ⟨ad, ln, c, e, _⟩ := h1; exact ⟨ad, ln, c, e⟩
      | sr o S lo len =>
        simp only [Rep] at h1
        rcases h1 with ⟨_, ⟨ad, e⟩, _⟩ | ⟨b, C, cap, _, _, _, _, (e | ⟨_, _, ad, e⟩)⟩
        · exact ⟨_, _, _, e⟩
        · exact ⟨_, _, _, e⟩
        · exact ⟨_, _, _, e⟩
      | v y =>
        simp only [Rep] at h1
        cases y with
        | slice ad ln c => exact ⟨_, _, _, h1⟩
        | string q => exact absurd rfl (hns q)
        | _ => simp [srcA] at hs
      | _ => simp [srcA] at hs
    obtain ⟨ad, ln, c, ex⟩ := hshape
    rw [ex] at hlen hc
    simp only [Builtin.lenOf, Sem.run_pure, Result.ok.injEq, and_true] at hlen
    have key : (Conv.bytesToString (.slice ad ln c)).run P w = .ok (.string (mkString zs)) w := by
      cases ad with
      | none =>
        have hz : zs = [] := by
          simp [Builtin.firstCells] at hc
          exact hc
        subst hz
        simp [Conv.bytesToString, mkString]
      | some ad =>
        refine run_bytesToString w ad ln c zs ?_
        simp only [Builtin.firstCells, Nat.mul_one] at hc
        rw [hlen]; exact hc
    simp [execOp, convert, run_underlying u1, run_underlying u2, run_underlying u3, ex, key]) kk
theorem ev_strEq {op : BinOp} {x y : Operand} {t t' : TypeId} {a b : ByteArray} {c : Bool} (hx : aeval L x = some (.v (.string a))) (hy : aeval L y = some (.v (.string b))) (hc : (op = .eql ∧ beqL a.data.toList b.data.toList = c) ∨ (op = .neq ∧ (!beqL a.data.toList b.data.toList) = c)) (hg : Gd ops L guard gu) (hn : ∀ d, dst = some d → d < n)
    (k : EvK P n ops l (updL L dst (.v (.bool c)) []) ob (fun recs => kf (⟨dst, gu ++ uses [(x, .v (.string a)), (y, .v (.string b))], .v (.bool c), [], .pure⟩ :: recs))) :
    EvK P n ops (⟨dst, .binOp op t x y t', ty, pos, after, guard⟩ :: l) L ob kf :=
  ev_plain2 hx hy hg hn (fun w ρ h1 h2 => by
    rw [beqL_eq, ← ByteArray.toList_eq, ← ByteArray.toList_eq] at hc
    rcases hc with ⟨rfl, rfl⟩ | ⟨rfl, rfl⟩ <;> simp [execOp, h1, h2, eqGuard, binOp, Op.stringOp]) k
theorem rows_of_cells {m : Mem} {γ : Gam} {S b : Nat} : ∀ {rows : List (List AV)} {off : Nat} {xs : List Value}, (∀ r ∈ rows, r.length = S) → RepVals m γ rows.flatten xs → (∀ i x, xs[i]? = some x → m ⟨b, off + i, none⟩ = some x) → RepRows m γ S rows b off
  | [], off, xs, _, _, _ => by simp [RepRows]
  | r :: rs, off, xs, hS, hr, hm => by
    simp only [List.flatten_cons] at hr
    have hrl := hS r (by simp)
    simp only [RepRows]
    refine ⟨hrl, repCells_of_get fun i c hc => ?_, rows_of_cells (xs := xs.drop S) (fun q hq => hS q (List.mem_cons_of_mem _ hq)) ?_ fun i x hx => ?_⟩
    · have hlt := (List.getElem?_eq_some_iff.1 hc).1
      obtain ⟨x, hx, hrx⟩ := repVals_get hr i c (by rw [List.getElem?_append_left hlt]; exact hc)
      exact ⟨x, hm i x hx, hrx⟩
    · have := repVals_drop hr S
      rw [← hrl, List.drop_left] at this
      rw [← hrl]; exact this
    · rw [List.getElem?_drop] at hx
      have := hm _ x hx
      rw [← this]; congr 2; omega
def conv8 (P : Program) (s d : TypeId) : Bool := Nat.beq s d && match P.underlying s with
  | some (.slice e) => match P.underlying e with
    | some (.int .u8) => true
    | _ => false
  | _ => false
theorem freeze_CA {w : World} {b : Nat} {cs : Array Value} {T : TypeId} (h : CA w b cs T) : CA (w.freeze ⟨b, cs.size, none⟩ 1) b cs T ∧ (∀ k, k ≠ b → (w.freeze ⟨b, cs.size, none⟩ 1).heap[k]? = w.heap[k]?) ∧ (w.freeze ⟨b, cs.size, none⟩ 1).heap.size = w.heap.size := by
  obtain ⟨⟨lo, hi⟩, h1, h2⟩ := h
  refine ⟨⟨if lo == hi then (cs.size, cs.size + 1) else (min lo cs.size, max hi (cs.size + 1)), ?_, ?_⟩, fun k hk => ?_, ?_⟩
  · simp [World.freeze, Array.getElem?_modify, h1]
  · rcases h2 with e | e
    · cases e; exact .inr rfl
    · simp only at e
      subst e
      split
      · exact .inr rfl
      · exact .inr (Nat.min_self _)
  · simp [World.freeze, Array.getElem?_modify, Ne.symm hk]
  · simp [World.freeze]
/-- []byte of a []byte: the same slice -/
theorem ev_conv8 {x : Operand} {s d E : TypeId} {o len : Nat} {rows : List (List AV)} (ht : conv8 P s d = true) (hx : aeval L x = some (.sr o 1 0 len)) (ho : ob[o]? = some (.row E 1 rows)) (h0 : 0 < len) (hg : Gd ops L guard gu) (hn : ∀ d, dst = some d → d < n)
    (kk : EvK P n ops l (updL L dst (.sr o 1 0 len) []) (ob.set o (.row E 1 rows)) (fun recs => kf (⟨dst, gu ++ uses [(x, .sr o 1 0 len)], .sr o 1 0 len, [], .st o (.row E 1 rows) (.row E 1 rows)⟩ :: recs))) :
    EvK P n ops (⟨dst, .convert s d x, ty, pos, after, guard⟩ :: l) L ob kf :=
  ev_st (o := ⟨dst, .convert s d x, ty, pos, after, guard⟩) ho [(x, .sr o 1 0 len)] ⟨hx, trivial⟩ hg hn (fun ob m γ w a K Q ho hi h hK => by
    have h1 := h.1
    have hu : s = d ∧ ∃ e, P.underlying s = some (.slice e) ∧ P.underlying e = some (.int .u8) := by
      unfold conv8 at ht
      simp only [Bool.and_eq_true] at ht
      refine ⟨Nat.eq_of_beq_eq_true ht.1, ?_⟩
      have h2 := ht.2
      split at h2
      · rename_i e h3
        split at h2
        · rename_i h4; exact ⟨e, h3, h4⟩
        · cases h2
      · cases h2
    obtain ⟨rfl, e, u1, u2⟩ := hu
    have h1' := h1
    simp only [Rep] at h1
    rcases h1 with ⟨_, _, _, h⟩ | ⟨b, C, cap, g1, g2, g3, g4, (g5 | ⟨_, h, _⟩)⟩
    · omega
    rotate_left
    · exact absurd rfl h
    rcases hi.obj o _ ho with ⟨e1, _⟩ | ⟨b', C', cs, p1, p2, p3, p4, p5, p6, p7, p8⟩
    · rw [g1] at e1; cases e1
    rw [g1] at p1; cases p1
    obtain ⟨f1, f2, f3⟩ := freeze_CA p2
    obtain ⟨_, i2, i3⟩ := inv_set hi (X' := .row E 1 rows) ho (by simp) g1 p8 f2 f3 rfl rfl rfl [] (.inr ⟨b, C, cs, g1, f1, p3, p4, p5, p6, p7, p8⟩)
    refine upon_value' (v := a.eval x) (w' := w.freeze ⟨b, cs.size, none⟩ 1) ?_ (hK m γ _ _ i3 (Le.refl _ _ _) i2 h1')
    obtain ⟨fr, q1, _⟩ := p2
    have hsh : w.shape? b = some (E, cs.size) := by simp [World.shape?, q1]
    simp [execOp, g5, convert, run_underlying u1, run_underlying u2, markStringish, shape, Sem.run, hsh]) kk
end
end Go.Am
