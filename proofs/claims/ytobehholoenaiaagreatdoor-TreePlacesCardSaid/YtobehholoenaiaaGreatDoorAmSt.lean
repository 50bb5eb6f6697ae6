/-
  An abstract machine, part St: functions that are handed live objects, by runs of pieces; a call lifted to whatever objects there are.
-/
import Derived.Test.YtobehholoenaiaaGreatDoorAmFa
namespace Go.Am

/-- An object told with less. -/
inductive Told : Ob → Ob → Prop
  | same (X : Ob) : Told X X
  | dead (X : Ob) : Told X .dead
  | row {T S k : Nat} {rows : List (List AV)} (h : k ≤ rows.length) : Told (.row T S rows) (.row T S (rows.take k))
theorem obAt_told {m : Mem} {γ : Gam} {w : World} {o : Nat} {X Y : Ob} (h : Told X Y) (hx : ObAt m γ w o X) : ObAt m γ w o Y := by
  cases h with
  | same => exact hx
  | dead => trivial
  | row hk =>
    rename_i T S k rows
    rcases hx with ⟨g1, g2⟩ | ⟨b, C, cs, g1, g2, g3, g4, g5, g6, g7, g8⟩
    · exact .inl ⟨g1, by rw [g2]; simp⟩
    · have hl : (rows.take k).length = k := by simp; omega
      refine .inr ⟨b, C, cs, g1, g2, g3, by omega, g5, fun r hr => g6 r (List.mem_of_mem_take hr), ?_, g8⟩
      have := repVals_take g7 (k * S)
      rw [flat_take g6 hk, List.take_take, Nat.min_eq_left (Nat.mul_le_mul_right _ hk)] at this
      rw [hl]
      exact this
theorem told_live {X Y : Ob} (h : Told X Y) (hy : Y ≠ .dead) : X ≠ .dead := by
  cases h with
  | same => exact hy
  | dead => exact absurd rfl hy
  | row => simp
/-- Objects chosen, told with less and numbered anew, slots forgotten. -/
structure ViewD (K : Nat) (L' : Loc) (ob' : List Ob) (L : Loc) (ob : List Ob) (sel : List Nat) : Prop where
  nodup : sel.Nodup
  len : sel.length = ob.length
  obs : ∀ (i s : Nat) (X : Ob), sel[i]? = some s → ob[i]? = some X → ∃ Y, ob'[s]? = some Y ∧ Told Y (X.ren (fsel sel ob'.length))
  same : ∀ i, i < K → sel[i]? = some i
  slots : ∀ t av, lk L t = some av → lk L' t = some (av.ren (fsel sel ob'.length))
theorem inv_selD {m : Mem} {γ : Gam} {w : World} {ob obc : List Ob} (hi : Inv m γ ob w) {sel : List Nat} (hn : sel.Nodup) (hl : sel.length = obc.length) (hsel : ∀ (i s : Nat) (X : Ob), sel[i]? = some s → obc[i]? = some X → ∃ Y, ob[s]? = some Y ∧ Told Y (X.ren (fsel sel ob.length))) :
    Inv m (fun k => γ (fsel sel ob.length k)) obc w := by
  have key : ∀ (i : Nat) (X : Ob), obc[i]? = some X → ∃ s : Nat, sel[i]? = some s ∧ ∃ Y, ob[s]? = some Y ∧ Told Y (X.ren (fsel sel ob.length)) := by
    intro i X hX
    have hi' : i < sel.length := by have := (List.getElem?_eq_some_iff.1 hX).1; omega
    have h1 : sel[i]? = some sel[i] := List.getElem?_eq_getElem hi'
    exact ⟨_, h1, hsel i _ X h1 hX⟩
  refine ⟨hi.mem, fun o X hX => ?_, fun o o' b C C' h1 h2 h3 h4 => ?_, fun o b C h => hi.dom _ b C h, fun o h => ?_⟩
  · obtain ⟨s, g1, Y, g2, g3⟩ := key o X hX
    refine obAt_ren.2 ?_
    rw [fsel_lt g1]
    exact obAt_told g3 (hi.obj s _ g2)
  · obtain ⟨X, hX, hXd⟩ := h1
    obtain ⟨Z, hZ, hZd⟩ := h2
    obtain ⟨s, g1, Y, g2, g3⟩ := key o X hX
    obtain ⟨t, k1, V, k2, k3⟩ := key o' Z hZ
    rw [fsel_lt g1] at h3
    rw [fsel_lt k1] at h4
    have dd : ∀ {Z : Ob}, Z ≠ .dead → Z.ren (fsel sel ob.length) ≠ .dead := by intro Z hZ; cases Z <;> simp_all [Ob.ren]
    have e := hi.sep s t b C C' ⟨_, g2, told_live g3 (dd hXd)⟩ ⟨_, k2, told_live k3 (dd hZd)⟩ h3 h4
    subst e
    have o1 := (List.getElem?_eq_some_iff.1 g1).1
    have o2 := (List.getElem?_eq_some_iff.1 k1).1
    rcases Nat.lt_trichotomy o o' with h | h | h
    · have := List.pairwise_iff_getElem.1 hn o o' o1 o2 h
      rw [(List.getElem?_eq_some_iff.1 g1).2, (List.getElem?_eq_some_iff.1 k1).2] at this
      exact absurd rfl this
    · exact h
    · have := List.pairwise_iff_getElem.1 hn o' o o2 o1 h
      rw [(List.getElem?_eq_some_iff.1 g1).2, (List.getElem?_eq_some_iff.1 k1).2] at this
      exact absurd rfl this
  · by_cases h1 : o < sel.length
    · omega
    · have h2 := hi.len _ h
      rw [fsel_ge (by omega)] at h2
      omega
section
variable {df : Option Nat} {P : Program} {n K : Nat}
theorem awp_viewD {c : Code} {Q : APost} {L0 : Loc} {ob0 : List Ob} (h : awp df P n K [] c (fun x L' ob' => ∃ L ob sel, ViewD K L' ob' L ob sel ∧ plainX x = true ∧ Q x L ob) L0 ob0) : awp df P n K [] c Q L0 ob0 := by
  intro m γ w a hi hl hs hd
  refine wpIn_mono (h m γ w a hi hl hs hd) ?_
  rintro e a1 w1 ⟨m1, γ1, L1, ob1, ax, ⟨L, ob, sel, hv, hp, hq⟩, h2, h3, h4, h5, h6, h7, h8⟩
  refine ⟨m1, fun k => γ1 (fsel sel ob1.length k), L, ob, ax, hq, ?_, ⟨h3.mem, h3.new, fun k hk ⟨o, C, ho⟩ => h3.gam k hk ⟨_, C, ho⟩, h3.os, h3.tape, h3.output, h3.size, h3.blk⟩, inv_selD h4 hv.nodup hv.len hv.obs, ?_, h6, h7.gam (fun k ⟨o, C, ho⟩ => ⟨_, C, ho⟩), fun o g ho hg => ?_⟩
  · cases ax with
    | panic av => cases hp
    | _ => cases e <;> first | exact h2.elim | exact h2
  · intro t av e1
    obtain ⟨q1, q2⟩ := h5 t _ (hv.slots t av e1)
    exact ⟨q1, (rep_ren av _).2 q2⟩
  · show γ1 (fsel sel ob1.length o) = some g
    rw [fsel_lt (hv.same o ho.1)]
    exact h8 o g ho hg
/-- the objects that a run gives tell these -/
def ToldL (f : Nat → Nat) : List (Option Ob) → List Ob → Prop
  | [], [] => True
  | some Y :: SO, X :: obs => Told Y (X.ren f) ∧ ToldL f SO obs
  | _, _ => False
theorem toldL_get {f : Nat → Nat} : ∀ {SO : List (Option Ob)} {obs : List Ob}, ToldL f SO obs → SO.length = obs.length ∧ ∀ (i : Nat) (X : Ob), obs[i]? = some X → ∃ Y, SO[i]? = some (some Y) ∧ Told Y (X.ren f)
  | [], [], _ => ⟨rfl, fun i X h => by simp at h⟩
  | some Y :: SO, X :: obs, h => by
    obtain ⟨k1, k2⟩ := toldL_get h.2
    refine ⟨by simp [k1], fun i Z hZ => ?_⟩
    cases i with
    | zero => simp at hZ; subst hZ; exact ⟨Y, rfl, h.1⟩
    | succ i => simpa using k2 i Z (by simpa using hZ)
  | none :: _, _ :: _, h => h.elim
  | none :: _, [], h => h.elim
  | some _ :: _, [], h => h.elim
  | [], _ :: _, h => h.elim
/-- A PIECE BY ITS RUN, its first K objects in their places. -/
theorem pieceD_of_run {callf : CallF} (hcf : CallOk P callf) (hm : P.follows .mixedOrders = true) {pu : FuncId → Bool} {lf : Nat} {c : Code} {L L' : Loc} {ob ob' : List Ob} {x : AX} {sel : List Nat} {gd : List Gi} {ok : List Bool} {N' : Nat} {SL : List (Option AV)} {SO : List (Option Ob)}
    (h : outR (L'.map (·.1)) sel (runCode P n callf pu lf c (triM L) (triO ob) ob.length ⟨0, gd, []⟩) = some (x, SL, SO, N', ok)) (hok : allT ok = true)
    (hx : plainX x = true) (hn : nodupL sel = true) (hK : (List.range K).all (fun i => sel[i]? == some i) = true) (h2 : renL (fsel sel N') L' = SL) (h3 : ToldL (fsel sel N') SO ob') : Piece P n K c L ob x L' ob' := by
  intro df Q hdo hq
  cases hr : runCode P n callf pu lf c (triM L) (triO ob) ob.length ⟨0, gd, []⟩ with
  | fail => rw [hr] at h; cases h
  | ok x1 M1 O1 N1 t1 =>
    rw [hr] at h
    simp only [outR, Option.some.injEq, Prod.mk.injEq] at h
    obtain ⟨rfl, q2, q3, rfl, rfl⟩ := h
    have hrun := (runCode_ok hcf hm lf c hr).2 hok ⟨L, ob, triM_rel L, triO_rel ob⟩
    refine awp_viewD (((hrun.2 L ob (triM_rel L) (triO_rel ob)).2 df K _ hdo) fun L1 ob1 hM hO => ?_)
    have hl1 : ob1.length = N1 := hO.1
    rw [← q3] at h3
    obtain ⟨t1, t2⟩ := toldL_get h3
    refine ⟨L', ob', sel, ⟨nodupL_spec hn, by simpa using t1, fun i s X hi hX => ?_, fun i hi => ?_, fun t av e => ?_⟩, hx, hq⟩
    · obtain ⟨Y, k1, k2⟩ := t2 i X hX
      rw [List.getElem?_map, hi] at k1
      simp only [Option.map_some, Option.some.injEq] at k1
      exact ⟨Y, by rw [← hO.2]; exact k1, by rw [hl1]; exact k2⟩
    · have := List.all_eq_true.1 hK i (List.mem_range.2 hi)
      simpa using this
    · rw [← hM t, hl1]
      exact lk_of_map (q2.trans h2.symm) t av e
/-- A call on some objects, lifted to whatever objects there are. -/
theorem aret_lift {f : FuncId} {argsC : List AV} {obc obc' : List Ob} {r : AV} (h : ARet P f argsC obc [] r obc') {sel : List Nat} {ob : List Ob} (hn : sel.Nodup) (hsel : SelOk ob (fsel sel ob.length) sel obc) (hlen : sel.length ≤ obc'.length) :
    ARet P f (renVals (fsel sel ob.length) argsC) ob [] (r.ren (fsel sel ob.length)) (back ob sel [] obc') := by
  obtain ⟨hl, hget⟩ := selOk_get hsel
  refine ⟨h.1, fun m γ w vs hi hv => (h.2 m _ w vs (inv_sel hi hn hl hget) ((repVals_ren _ _).2 hv)).mono ?_⟩
  rintro e w' ⟨m', γc, r', o', ⟨rfl, rfl⟩, h2, h3, h4, h5⟩
  obtain ⟨γ', g1, g2, g3, g4⟩ := inv_back hi (kk := []) hn hl hget hlen (by simp) h3 h4 h5
  refine ⟨m', γ', _, _, ⟨rfl, rfl⟩, ?_, g2, g4, fun o g hk hg => g3.gam o g hg hk⟩
  cases e with
  | returned v =>
    have h2' : Rep m' γc r v := h2
    rw [← show (fun k => γ' (fsel sel ob.length k)) = γc from funext g1] at h2'
    exact (rep_ren _ _).1 h2'
  | panicked c => exact h2.elim
  | outgrown => exact h2.elim
end
end Go.Am
