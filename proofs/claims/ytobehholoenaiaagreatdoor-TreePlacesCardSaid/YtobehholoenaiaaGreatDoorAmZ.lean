/-
  An abstract machine, part Z: pieces of code, run by the evaluator from a state that is written out to another; loops over such states.
-/
import Derived.Test.YtobehholoenaiaaGreatDoorAmY
namespace Go.Am

noncomputable def triM : Loc → Tri AV
  | [] => .e
  | (t, av) :: L => (triM L).set av t
theorem triM_rel : ∀ L : Loc, RelM (triM L) L
  | [] => RelM.nil
  | (t, av) :: L => fun s => by
    rw [triM, tri_get_set, lk_cons, triM_rel L s]
noncomputable def triO (ob : List Ob) : Tri Ob := triOk 0 ob .e
theorem triO_rel (ob : List Ob) : RelO (triO ob) ob.length ob :=
  ⟨rfl, fun i => by rw [triO, triOk_get ob 0 .e (fun j _ => rfl) i, if_neg (by omega), Nat.sub_zero]⟩

/-- Objects chosen and numbered anew, slots forgotten. -/
structure View (K : Nat) (L' : Loc) (ob' : List Ob) (L : Loc) (ob : List Ob) (sel : List Nat) : Prop where
  nodup : sel.Nodup
  len : sel.length = ob.length
  obs : ∀ (i s : Nat) (X : Ob), sel[i]? = some s → ob[i]? = some X → ob'[s]? = some (X.ren (fsel sel ob'.length)) ∧ X ≠ .dead
  same : ∀ i, i < K → sel[i]? = some i
  slots : ∀ t av, lk L t = some av → lk L' t = some (av.ren (fsel sel ob'.length))
def plainX : AX → Bool
  | .panic _ => false
  | _ => true
section
variable {df : Option Nat} {P : Program} {n K : Nat}
theorem awp_view {c : Code} {Q : APost} {L0 : Loc} {ob0 : List Ob} (h : awp df P n K [] c (fun x L' ob' => ∃ L ob sel, View K L' ob' L ob sel ∧ plainX x = true ∧ Q x L ob) L0 ob0) : awp df P n K [] c Q L0 ob0 := by
  intro m γ w a hi hl hs hd
  refine wpIn_mono (h m γ w a hi hl hs hd) ?_
  rintro e a1 w1 ⟨m1, γ1, L1, ob1, ax, ⟨L, ob, sel, hv, hp, hq⟩, h2, h3, h4, h5, h6, h7, h8⟩
  refine ⟨m1, fun k => γ1 (fsel sel ob1.length k), L, ob, ax, hq, ?_, ⟨h3.mem, h3.new, fun k hk ⟨o, C, ho⟩ => h3.gam k hk ⟨_, C, ho⟩, h3.os, h3.tape, h3.output, h3.size, h3.blk⟩, inv_sel h4 hv.nodup hv.len hv.obs, ?_, h6, h7.gam (fun k ⟨o, C, ho⟩ => ⟨_, C, ho⟩), fun o g ho hg => ?_⟩
  · cases ax with
    | panic av => cases hp
    | _ => cases e <;> first | exact h2.elim | exact h2
  · intro t av e1
    obtain ⟨q1, q2⟩ := h5 t _ (hv.slots t av e1)
    exact ⟨q1, (rep_ren av _).2 q2⟩
  · show γ1 (fsel sel ob1.length o) = some g
    rw [fsel_lt (hv.same o ho.1)]
    exact h8 o g ho hg

/-- Code that leads from one state to another. -/
def Piece (P : Program) (n K : Nat) (c : Code) (L : Loc) (ob : List Ob) (x : AX) (L' : Loc) (ob' : List Ob) : Prop := ∀ (df : Option Nat) (Q : APost), DfOk df c → Q x L' ob' → awp df P n K [] c Q L ob

/-- what is looked at behind a run: how it was left, these slots, these objects -/
noncomputable def outR (slots sel : List Nat) : RX → Option (AX × List (Option AV) × List (Option Ob) × Nat × List Bool)
  | .ok x M O N t => some (x, slots.map M.get, sel.map O.get, N, t.ok)
  | .fail => none
def renO (f : Nat → Nat) (l : List Ob) : List (Option Ob) := l.map fun X => some (X.ren f)
def renL (f : Nat → Nat) (l : Loc) : List (Option AV) := l.map fun p => some (p.2.ren f)
def liveB : List Ob → Bool
  | [] => true
  | .dead :: _ => false
  | _ :: l => liveB l
theorem liveB_spec : ∀ {l : List Ob}, liveB l = true → ∀ X ∈ l, X ≠ .dead
  | [], _, X, h => by simp at h
  | Y :: l, hb, X, h => by
    have hY : Y ≠ .dead ∧ liveB l = true := by cases Y <;> simp_all [liveB]
    rcases List.mem_cons.1 h with e | e
    · exact e ▸ hY.1
    · exact liveB_spec hY.2 X e
def nodupL : List Nat → Bool
  | [] => true
  | a :: l => !l.contains a && nodupL l
theorem nodupL_spec : ∀ {l : List Nat}, nodupL l = true → l.Nodup
  | [], _ => List.nodup_nil
  | a :: l, h => by
    simp only [nodupL, Bool.and_eq_true, Bool.not_eq_true'] at h
    exact List.nodup_cons.2 ⟨by simpa using h.1, nodupL_spec h.2⟩
theorem lk_of_map {M : Tri AV} {f : Nat → Nat} : ∀ {l : Loc}, (l.map (·.1)).map M.get = renL f l → ∀ t av, lk l t = some av → M.get t = some (av.ren f)
  | [], _, t, av, h => by simp [lk] at h
  | (s, bv) :: l, e, t, av, h => by
    simp only [renL, List.map_cons, List.cons.injEq] at e
    rw [lk_cons] at h
    by_cases hs : s = t
    · subst hs; rw [if_pos rfl] at h; cases h; exact e.1
    · rw [if_neg hs] at h; exact lk_of_map e.2 t av h
/-- A PIECE BY ITS RUN. -/
theorem piece_of_run {callf : CallF} (hcf : CallOk P callf) (hm : P.follows .mixedOrders = true) {pu : FuncId → Bool} {lf : Nat} {c : Code} {L L' : Loc} {ob ob' : List Ob} {x : AX} {sel : List Nat} {gd : List Gi} {ok : List Bool} {N' : Nat}
    (h : outR (L'.map (·.1)) sel (runCode P n callf pu lf c (triM L) (triO ob) ob.length ⟨ob.length, gd, []⟩) = some (x, renL (fsel sel N') L', renO (fsel sel N') ob', N', ok)) (hok : allT ok = true)
    (hx : plainX x = true) (hlive : liveB ob' = true) (hn : nodupL sel = true) (hlen : Nat.beq sel.length ob'.length = true) (hK : (List.range K).all (fun i => sel[i]? == some i) = true) : Piece P n K c L ob x L' ob' := by
  intro df Q hdo hq
  cases hr : runCode P n callf pu lf c (triM L) (triO ob) ob.length ⟨ob.length, gd, []⟩ with
  | fail => rw [hr] at h; cases h
  | ok x1 M1 O1 N1 t1 =>
    rw [hr] at h
    simp only [outR, Option.some.injEq, Prod.mk.injEq] at h
    obtain ⟨rfl, h2, h3, rfl, rfl⟩ := h
    have hrun := (runCode_ok hcf hm lf c hr).2 hok ⟨L, ob, triM_rel L, triO_rel ob⟩
    refine awp_view (((hrun.2 L ob (triM_rel L) (triO_rel ob)).2 df K _ hdo) fun L1 ob1 hM hO => ?_)
    have hlen' := Nat.eq_of_beq_eq_true hlen
    have hl1 : ob1.length = N1 := hO.1
    refine ⟨L', ob', sel, ⟨nodupL_spec hn, hlen', fun i s X hi hX => ⟨?_, liveB_spec hlive X (List.mem_of_getElem? hX)⟩, fun i hi => ?_, fun t av e => ?_⟩, hx, hq⟩
    · have e1 : (sel.map O1.get)[i]? = some (O1.get s) := by rw [List.getElem?_map, hi]; rfl
      rw [h3, renO, List.getElem?_map, hX] at e1
      simp only [Option.map_some, Option.some.injEq] at e1
      rw [← hO.2, ← e1, hl1]
    · have := List.all_eq_true.1 hK i (List.mem_range.2 hi)
      simpa using this
    · rw [← hM t, hl1]
      exact lk_of_map h2 t av e
theorem piece_seq {a b : Code} {L L1 L2 : Loc} {ob ob1 ob2 : List Ob} {x : AX} (h : Piece P n K a L ob .normal L1 ob1) (k : Piece P n K b L1 ob1 x L2 ob2) : Piece P n K (.seq a b) L ob x L2 ob2 :=
  fun df Q hd hq => awp_seq (h df _ (hd.imp (fun e => e) fun e => by simp only [Code.inR, Bool.and_eq_true] at e; exact e.1) (k df Q (hd.imp (fun e => e) fun e => by simp only [Code.inR, Bool.and_eq_true] at e; exact e.2) hq))
/-- .. and what comes behind it -/
theorem awp_after {a b : Code} {L L1 : Loc} {ob ob1 : List Ob} {Q : APost} (hd : DfOk df a) (h : Piece P n K a L ob .normal L1 ob1) (k : awp df P n K [] b Q L1 ob1) : awp df P n K [] (.seq a b) Q L ob := awp_seq (h df _ hd k)
/-- A LOOP over states that are written out: each round leads to such a state, or out of the loop. -/
theorem awp_rounds {ι : Type} {c : Code} {Q : APost} (hd : DfOk df c) (L : ι → Loc) (B : ι → List Ob) (I : ι → Prop) (μ : ι → Nat)
    (round : ∀ x, I x → (∃ y, I y ∧ μ y < μ x ∧ Piece P n K c (L x) (B x) .normal (L y) (B y)) ∨ (∃ ax L' ob', ax ≠ .normal ∧ Q ax L' ob' ∧ Piece P n K c (L x) (B x) ax L' ob')) (x : ι) (hx : I x) : awp df P n K [] (.loop c) Q (L x) (B x) := by
  refine awp_loop L B I μ x hx (Sub.refl _) rfl fun y hy => ?_
  rcases round y hy with ⟨z, h1, h2, h3⟩ | ⟨ax, L', ob', h1, h2, h3⟩
  · exact h3 df _ hd ⟨z, h1, h2, Sub.refl _, rfl⟩
  · refine h3 df _ hd ?_
    cases ax with
    | normal => exact absurd rfl h1
    | _ => exact h2
/-- What a function does that is handed no object, it does whatever objects there are. -/
theorem aret_up {f : FuncId} {args : List AV} {r : AV} (h : ARet P f args [] [] r []) (hp : pureVals args = true) (hr : r.pure = true) (ob : List Ob) : ARet P f args ob [] r ob := by
  refine ⟨h.1, fun m γ w vs hi hv => ?_⟩
  have hget : ∀ (i s : Nat) (X : Ob), ([] : List Nat)[i]? = some s → ([] : List Ob)[i]? = some X → ob[s]? = some (X.ren (fsel [] ob.length)) ∧ X ≠ .dead := fun i s X e => by simp at e
  refine (h.2 m _ w vs (inv_sel hi List.nodup_nil rfl hget) ((repVals_ren _ _).2 (by rw [renVals_pure _ _ hp]; exact hv))).mono ?_
  rintro e w' ⟨m', γc, r', obc', ⟨rfl, rfl⟩, h2, h3, h4, h5⟩
  obtain ⟨γ', g1, g2, g3, g4⟩ := inv_back hi (kk := []) List.nodup_nil rfl hget (Nat.le_refl _) (by simp) h3 h4 h5
  rw [back_nil] at g4
  refine ⟨m', γ', _, ob, ⟨rfl, rfl⟩, ?_, g2, g4, fun o g hk hg => g3.gam o g hg hk⟩
  cases e with
  | returned v =>
    have h2' : Rep m' γc r v := h2
    rw [← show (fun k => γ' (fsel [] ob.length k)) = γc from funext g1, rep_ren, ren_pure _ _ hr] at h2'
    exact h2'
  | panicked c => exact h2.elim
  | outgrown => exact h2.elim
/-- A function that touches no object, of which it is known what it gives where 'ok' holds. -/
noncomputable def known1 (f0 : FuncId) (ok : List AV → Prop) (r : List AV → AV) (callf : CallF) : CallF := fun f args O N tm => cond (Nat.beq f f0) (.ret (r args) O N ((tm.at N).asks (dec (ok args)))) (callf f args O N tm)
theorem known1_ok {f0 : FuncId} {ok : List AV → Prop} {r : List AV → AV} {callf : CallF} (h : ∀ args, ok args → ARet P f0 args [] [] (r args) [] ∧ pureVals args = true ∧ (r args).pure = true) (hcf : CallOk P callf) (hY : Nat.blt f0 yBase = true := by rfl) : CallOk P (known1 f0 ok r callf) := fun f args O N tm => by
  unfold known1
  cases hf : Nat.beq f f0 with
  | false => exact hcf f args O N tm
  | true =>
    have := Nat.eq_of_beq_eq_true hf
    subst this
    simp only [cond_true]
    refine ⟨fun r' O1 N1 t1 e => ?_, fun av O1 N1 t1 e => by cases e⟩
    cases e
    refine ⟨⟨[_], rfl⟩, fun hok ob hO => ?_⟩
    simp only [TM.asks, TM.at, allT, Bool.and_eq_true] at hok
    obtain ⟨k1, k2, k3⟩ := h args (dec_true.1 hok.1)
    exact ⟨ob, hO, fret_of hY (aret_up k1 k2 k3 ob), fun i hi => rfl⟩
end
end Go.Am
