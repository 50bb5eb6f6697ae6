/-
  An abstract machine, part Pc: functions by pieces: a state told anew, loops that are left by a return, what is left of a function from a state on.
-/
import Derived.Test.YtobehholoenaiaaGreatDoorAmEx
namespace Go.Am
section
variable {P : Program} {n K : Nat} {callf : CallF} {pu : FuncId → Bool} {lf : Nat}
/-- a piece by its run, whatever was touched before -/
theorem pieceL {lo : Nat} (hcf : CallOk P callf) (hm : P.follows .mixedOrders = true) {c : Code} {L L' : Loc} {ob ob' : List Ob} {x : AX} {sel : List Nat} {gd : List Gi} {ok : List Bool} {N' : Nat} {SL : List (Option AV)} {SO : List (Option Ob)}
    (h : outR (L'.map (·.1)) sel (runCode P n callf pu lf c (triM L) (triO ob) ob.length ⟨lo, gd, []⟩) = some (x, SL, SO, N', ok)) (hok : allT ok = true)
    (hx : plainX x = true) (hn : nodupL sel = true) (hK : (List.range K).all (fun i => sel[i]? == some i) = true) (h2 : renL (fsel sel N') L' = SL) (h3 : ToldL (fsel sel N') SO ob') : Piece P n K c L ob x L' ob' := by
  intro df Q hdo hq
  cases hr : runCode P n callf pu lf c (triM L) (triO ob) ob.length ⟨lo, gd, []⟩ with
  | fail => rw [hr] at h; cases h
  | ok x1 M1 O1 N1 t1 =>
    rw [hr] at h
    simp only [outR, Option.some.injEq, Prod.mk.injEq] at h
    obtain ⟨rfl, q2, q3, rfl, rfl⟩ := h
    have hrun := (runCode_ok hcf hm lf c hr).2 hok ⟨L, ob, triM_rel L, triO_rel ob⟩
    refine awp_viewD (((hrun.2 L ob (triM_rel L) (triO_rel ob)).2 df K _ hdo) fun L1 ob1 hM hO => ?_)
    have hl1 : ob1.length = N1 := hO.1
    rw [← q3] at h3
    obtain ⟨t1, t2⟩ := toldL_get h3
    refine ⟨L', ob', sel, ⟨nodupL_spec hn, by simpa using t1, fun i s X hi hX => ?_, fun i hi => ?_, fun t av e => ?_⟩, hx, hq⟩
    · obtain ⟨Y, k1, k2⟩ := t2 i X hX
      rw [List.getElem?_map, hi] at k1
      simp only [Option.map_some, Option.some.injEq] at k1
      exact ⟨Y, by rw [← hO.2]; exact k1, by rw [hl1]; exact k2⟩
    · have := List.all_eq_true.1 hK i (List.mem_range.2 hi)
      simpa using this
    · rw [← hM t, hl1]
      exact lk_of_map (q2.trans h2.symm) t av e
theorem toldL_app {f : Nat → Nat} {Z : List (Option Ob)} {Z' : List Ob} (hz : ToldL f Z Z') : ∀ {A A' : List Ob}, A'.map (Ob.ren f) = A → ToldL f (A.map some ++ Z) (A' ++ Z')
  | [], [], _ => hz
  | a :: A, a' :: A', h => by
    simp only [List.map_cons, List.cons.injEq] at h
    obtain ⟨h1, h2⟩ := h
    exact ⟨h1 ▸ .same _, toldL_app hz h2⟩
  | [], _ :: _, h => by cases h
  | _ :: _, [], h => by cases h
theorem toldL_all {f : Nat → Nat} {A A' : List Ob} (h : A'.map (Ob.ren f) = A) : ToldL f (A.map some) A' := by
  have := toldL_app (f := f) (Z := []) (Z' := []) trivial h
  simpa using this
theorem bodyA_mono {fn : Func} {R R' : AEnd → List Ob → Prop} (h : ∀ e o, R e o → R' e o) (x : AX) (L : Loc) (ob : List Ob) (k : bodyA P fn R x L ob) : bodyA P fn R' x L ob := by
  cases x with
  | normal => obtain ⟨avs, k1, k2⟩ := k; exact ⟨avs, k1, h _ _ k2⟩
  | ret => obtain ⟨avs, k1, k2⟩ := k; exact ⟨avs, k1, h _ _ k2⟩
  | panic av => exact h _ _ k
  | _ => exact k
theorem lk_same {f : Nat → Nat} : ∀ {l : Loc}, renL f l = l.map (fun p => some p.2) → ∀ t av, lk l t = some av → av.ren f = av
  | [], _, t, av, h => by simp [lk] at h
  | (s, x) :: l, e, t, av, h => by
    simp only [renL, List.map_cons, List.cons.injEq, Option.some.injEq] at e
    rw [lk_cons] at h
    split at h
    · cases h; exact e.1
    · exact lk_same (l := l) e.2 t av h
theorem back_eq (ob : List Ob) (sel : List Nat) (obc : List Ob) : back ob sel [] obc = setAll ob sel ((obc.map (Ob.ren (fsel sel ob.length))).take sel.length) ++ (obc.map (Ob.ren (fsel sel ob.length))).drop sel.length := by
  simp [back, killObs, List.map_take, List.map_drop]
/-! ### A state told anew -/
def Tell (P : Program) (n K : Nat) (L : Loc) (ob : List Ob) (L' : Loc) (ob' : List Ob) : Prop := ∀ (df : Option Nat) (c : Code) (Q : APost), awp df P n K [] c Q L' ob' → awp df P n K [] c Q L ob
theorem Tell.trans {L L1 L2 : Loc} {ob ob1 ob2 : List Ob} (h : Tell P n K L ob L1 ob1) (k : Tell P n K L1 ob1 L2 ob2) : Tell P n K L ob L2 ob2 := fun df c Q q => h df c Q (k df c Q q)
theorem piece_tell {c : Code} {L L1 L2 : Loc} {ob ob1 ob2 : List Ob} {x : AX} (h : Tell P n K L ob L1 ob1) (k : Piece P n K c L1 ob1 x L2 ob2) : Piece P n K c L ob x L2 ob2 := fun df Q hd hq => h df c Q (k df Q hd hq)
theorem tell_view {L' L : Loc} {ob' ob : List Ob} {sel : List Nat} (hv : ViewD K L' ob' L ob sel) : Tell P n K L' ob' L ob := by
  intro df c Q h m γ w a hi hl hs hd
  have hi2 := inv_selD hi hv.nodup hv.len hv.obs
  have hl2 : RepLoc m (fun k => γ (fsel sel ob'.length k)) a L := fun t av e => by
    obtain ⟨q1, q2⟩ := hl t _ (hv.slots t av e)
    exact ⟨q1, (rep_ren av _).2 q2⟩
  refine wpIn_mono (h m _ w a hi2 hl2 hs hd) ?_
  rintro e a1 w1 ⟨m1, γ1, L1, ob1, ax, h1, h2, h3, h4, h5, h6, h7, h8⟩
  refine ⟨m1, γ1, L1, ob1, ax, h1, h2, ⟨h3.mem, fun a x hx => ?_, fun k hk hg => ?_, h3.os, h3.tape, h3.output, h3.size, fun k hk hn => h3.blk k hk fun ⟨o, C, ho⟩ => hn ⟨_, C, ho⟩⟩, h4, h5, h6, h7, fun o g ho hg => h8 o g ho (by
    show γ (fsel sel ob'.length o) = some g
    rw [fsel_lt (hv.same o ho.1)]; exact hg)⟩
  · rcases h3.new a x hx with h | h | ⟨o, C, ho⟩
    · exact .inl h
    · exact .inr (.inl h)
    · exact .inr (.inr ⟨_, C, ho⟩)
  · obtain ⟨o, C, ho⟩ := h3.gam k hk hg
    exact ⟨_, C, ho⟩
theorem tell_frz {L L' : Loc} {ob ob2 : List Ob} {o : Nat} {X : Ob} (ho : ob[o]? = some X) (hX : (∃ T S rows, X = .row T S rows) ∨ ∃ Tb cells, X = .box Tb cells) (hl : ob2.length = ob.length)
    (hob : ∀ i Y Y', ob[i]? = some Y → ob2[i]? = some Y' → Y' = .dead ∨ (i ≠ o ∧ FrzOb o X Y Y')) (hL : ∀ t av', lk L' t = some av' → ∃ av, lk L t = some av ∧ Frz o X av av') : Tell P n K L ob L' ob2 := fun _ _ _ h => awp_frz ho hX hl hob hL h
/-! ### What is left of a function -/
def Fin (P : Program) (fn : Func) (K : Nat) (R : AEnd → List Ob → Prop) (c : Code) (L : Loc) (ob : List Ob) : Prop := awp none P fn.ntmps K [] c (bodyA P fn R) L ob
/-- the code returns -/
def Rets (P : Program) (fn : Func) (K : Nat) (R : AEnd → List Ob → Prop) (c : Code) (L : Loc) (ob : List Ob) : Prop := ∀ Q : APost, (∀ L' ob', bodyA P fn R .ret L' ob' → Q .ret L' ob') → awp none P fn.ntmps K [] c Q L ob
/-- the code in a loop ends the loop: what is behind it goes on to the function's end, or the code returns -/
def Brk (P : Program) (fn : Func) (K : Nat) (R : AEnd → List Ob → Prop) (id : Nat) (c B : Code) (L : Loc) (ob : List Ob) : Prop :=
  awp none P fn.ntmps K [] c (thenP (fun _ _ => False) (blockP id (thenP (awp none P fn.ntmps K [] B (bodyA P fn R)) (bodyA P fn R)))) L ob
variable {fn : Func} {R : AEnd → List Ob → Prop}
theorem fin_piece {a b : Code} {L L1 : Loc} {ob ob1 : List Ob} (h : Piece P fn.ntmps K a L ob .normal L1 ob1) (k : Fin P fn K R b L1 ob1) : Fin P fn K R (.seq a b) L ob := awp_seq (h none _ (.inl rfl) k)
theorem fin_tell {c : Code} {L L1 : Loc} {ob ob1 : List Ob} (h : Tell P fn.ntmps K L ob L1 ob1) (k : Fin P fn K R c L1 ob1) : Fin P fn K R c L ob := h none c _ k
theorem fin_rets {c : Code} {L : Loc} {ob : List Ob} (h : Rets P fn K R c L ob) : Fin P fn K R c L ob := h _ fun _ _ q => q
theorem rets_seq {a b : Code} {L : Loc} {ob : List Ob} (h : Rets P fn K R a L ob) : Rets P fn K R (.seq a b) L ob := fun _ hq => awp_seq (h _ fun L' ob' q => hq L' ob' q)
theorem rets_piece {a b : Code} {L L1 : Loc} {ob ob1 : List Ob} (h : Piece P fn.ntmps K a L ob .normal L1 ob1) (k : Rets P fn K R b L1 ob1) : Rets P fn K R (.seq a b) L ob := fun Q hq => awp_seq (h none _ (.inl rfl) (k Q hq))
theorem rets_block {id : Nat} {c : Code} {L : Loc} {ob : List Ob} (h : Rets P fn K R c L ob) : Rets P fn K R (.block id c) L ob := fun _ hq => awp_block (h _ fun L' ob' q => hq L' ob' q)
theorem rets_tell {c : Code} {L L1 : Loc} {ob ob1 : List Ob} (h : Tell P fn.ntmps K L ob L1 ob1) (k : Rets P fn K R c L1 ob1) : Rets P fn K R c L ob := fun Q hq => h none c _ (k Q hq)
theorem brk_tell {id : Nat} {c B : Code} {L L1 : Loc} {ob ob1 : List Ob} (h : Tell P fn.ntmps K L ob L1 ob1) (k : Brk P fn K R id c B L1 ob1) : Brk P fn K R id c B L ob := h none c _ k
theorem brk_exit {id : Nat} {c B : Code} {L L1 : Loc} {ob ob1 : List Ob} (h : Piece P fn.ntmps K c L ob (.exit id) L1 ob1) (k : Fin P fn K R B L1 ob1) : Brk P fn K R id c B L ob := h none _ (.inl rfl) (blk_same (Q := thenP (awp none P fn.ntmps K [] B (bodyA P fn R)) (bodyA P fn R)) k)
theorem brk_rets {id : Nat} {c B : Code} {L : Loc} {ob : List Ob} (h : Rets P fn K R c L ob) : Brk P fn K R id c B L ob := h _ fun _ _ q => q
/-- A LOOP over states that are written out -/
theorem awp_loopG {df : Option Nat} {ι : Type} {c : Code} {Q : APost} (hd : DfOk df c) (L : ι → Loc) (B : ι → List Ob) (I : ι → Prop) (μ : ι → Nat)
    (round : ∀ x, I x → (∃ y, I y ∧ μ y < μ x ∧ Piece P n K c (L x) (B x) .normal (L y) (B y)) ∨ awp df P n K [] c (thenP (fun _ _ => False) Q) (L x) (B x)) (x : ι) (hx : I x) : awp df P n K [] (.loop c) Q (L x) (B x) := by
  refine awp_loop L B I μ x hx (Sub.refl _) rfl fun y hy => ?_
  rcases round y hy with ⟨z, h1, h2, h3⟩ | h
  · exact h3 df _ hd ⟨z, h1, h2, Sub.refl _, rfl⟩
  · refine awp_mono h fun ax L' ob' q => ?_
    cases ax with
    | normal => exact q.elim
    | _ => exact q
theorem fin_loop {id : Nat} {c B : Code} {ι : Type} (L : ι → Loc) (Bs : ι → List Ob) (I : ι → Prop) (μ : ι → Nat) (x : ι) (hx : I x)
    (round : ∀ x, I x → (∃ y, I y ∧ μ y < μ x ∧ Piece P fn.ntmps K c (L x) (Bs x) .normal (L y) (Bs y)) ∨ Brk P fn K R id c B (L x) (Bs x)) : Fin P fn K R (.seq (.block id (.loop c)) B) (L x) (Bs x) :=
  awp_seq (awp_block (awp_loopG (.inl rfl) L Bs I μ round x hx))
theorem fin_loopH {id : Nat} {H c B : Code} {ι : Type} {L0 : Loc} {ob0 : List Ob} (L : ι → Loc) (Bs : ι → List Ob) (I : ι → Prop) (μ : ι → Nat) (x : ι) (hx : I x) (head : Piece P fn.ntmps K H L0 ob0 .normal (L x) (Bs x))
    (round : ∀ x, I x → (∃ y, I y ∧ μ y < μ x ∧ Piece P fn.ntmps K c (L x) (Bs x) .normal (L y) (Bs y)) ∨ Brk P fn K R id c B (L x) (Bs x)) : Fin P fn K R (.seq (.seq H (.block id (.loop c))) B) L0 ob0 :=
  awp_seq (awp_seq (head none _ (.inl rfl) (awp_block (awp_loopG (.inl rfl) L Bs I μ round x hx))))
/-- a loop that is left in one way alone is a piece -/
theorem piece_loop {id : Nat} {c : Code} {ι : Type} {L' : Loc} {ob' : List Ob} (L : ι → Loc) (Bs : ι → List Ob) (I : ι → Prop) (μ : ι → Nat) (x : ι) (hx : I x)
    (round : ∀ x, I x → (∃ y, I y ∧ μ y < μ x ∧ Piece P n K c (L x) (Bs x) .normal (L y) (Bs y)) ∨ Piece P n K c (L x) (Bs x) (.exit id) L' ob') : Piece P n K (.block id (.loop c)) (L x) (Bs x) .normal L' ob' := by
  intro df Q hd hq
  have hd' : DfOk df c := hd.imp (fun e => e) fun e => by simpa only [Code.inR] using e
  exact awp_block (awp_loopG hd' L Bs I μ (fun y hy => (round y hy).imp (fun e => e) fun k => k df _ hd' (blk_same (Q := Q) hq)) x hx)
theorem piece_block {id : Nat} {c : Code} {L L' : Loc} {ob ob' : List Ob} (h : Piece P n K c L ob .normal L' ob') : Piece P n K (.block id c) L ob .normal L' ob' := fun df _ hd hq => awp_block (h df _ (hd.imp (fun e => e) fun e => by simpa only [Code.inR] using e) hq)
/-- .. left by this exit -/
theorem piece_blockX {id : Nat} {c : Code} {L L' : Loc} {ob ob' : List Ob} (h : Piece P n K c L ob (.exit id) L' ob') : Piece P n K (.block id c) L ob .normal L' ob' := fun df Q hd hq => awp_block (h df _ (hd.imp (fun e => e) fun e => by simpa only [Code.inR] using e) (blk_same (Q := Q) hq))
/-- left early -/
theorem piece_left {a b : Code} {L L' : Loc} {ob ob' : List Ob} {x : AX} (h : Piece P n K a L ob x L' ob') (hx : x ≠ .normal) : Piece P n K (.seq a b) L ob x L' ob' := fun df Q hd hq => awp_seq (h df _ (hd.imp (fun e => e) fun e => by simp only [Code.inR, Bool.and_eq_true] at e; exact e.1) (by
  cases x with
  | normal => exact absurd rfl hx
  | _ => exact hq))
theorem piece_skip {L : Loc} {ob : List Ob} : Piece P n K .skip L ob .normal L ob := fun _ _ _ hq => awp_skip hq
/-- what a run that returns gives -/
noncomputable def retC (P : Program) (rs : List ResultVar) (k : Nat) : RX → Option (AV × List (Option Ob) × List Bool)
  | .ok .ret M O _ t => match resE P M O rs with
    | some avs => some (resOf avs, (List.range k).map O.get, t.ok)
    | none => none
  | _ => none
theorem rets_run {lo : Nat} (hcf : CallOk P callf) (hm : P.follows .mixedOrders = true) {c : Code} {L : Loc} {ob obs : List Ob} {r : AV} {gd : List Gi} {SO : List (Option Ob)} {ok : List Bool}
    (h : retC P fn.results.toList obs.length (runCode P fn.ntmps callf pu lf c (triM L) (triO ob) ob.length ⟨lo, gd, []⟩) = some (r, SO, ok)) (hok : allT ok = true) (h3 : obs.map some = SO) (hR : ∀ xs, R (.ret r) (obs ++ xs)) : Rets P fn K R c L ob := by
  intro Q hq
  cases hr : runCode P fn.ntmps callf pu lf c (triM L) (triO ob) ob.length ⟨lo, gd, []⟩ with
  | fail => rw [hr] at h; simp [retC] at h
  | ok x3 M3 O3 N3 t3 =>
    rw [hr] at h
    obtain ⟨e3, hrun3⟩ := runCode_ok hcf hm lf c hr
    cases x3 with
    | ret =>
      simp only [retC] at h
      split at h
      · rename_i avs ha
        simp only [Option.some.injEq, Prod.mk.injEq] at h
        obtain ⟨rfl, h4, rfl⟩ := h
        refine (((hrun3 hok ⟨L, ob, triM_rel _, triO_rel _⟩).2 _ _ (triM_rel _) (triO_rel _)).2 none K _ (.inl rfl)) fun L3 ob3 hM3 hO3 => ?_
        obtain ⟨xs, e⟩ := range_get rfl (h4.trans h3.symm) hO3
        exact hq _ _ ⟨avs, resE_ok hM3 hO3 ha, by rw [e]; exact hR xs⟩
      · cases h
    | _ => simp [retC] at h
/-- the end of a function, by its run -/
theorem fin_run {lo : Nat} (hcf : CallOk P callf) (hm : P.follows .mixedOrders = true) {c : Code} {L : Loc} {ob obs : List Ob} {r : AV} {gd : List Gi} {SO : List (Option Ob)} {ok : List Bool}
    (h : lastC P fn.results.toList obs.length (runCode P fn.ntmps callf pu lf c (triM L) (triO ob) ob.length ⟨lo, gd, []⟩) = some (r, SO, ok)) (hok : allT ok = true) (h3 : obs.map some = SO) (hR : ∀ xs, R (.ret r) (obs ++ xs)) : Fin P fn K R c L ob := by
  cases hr : runCode P fn.ntmps callf pu lf c (triM L) (triO ob) ob.length ⟨lo, gd, []⟩ with
  | fail => rw [hr] at h; simp [lastC] at h
  | ok x3 M3 O3 N3 t3 =>
    rw [hr] at h
    obtain ⟨e3, hrun3⟩ := runCode_ok hcf hm lf c hr
    have aux : ∀ avs, resE P M3 O3 fn.results.toList = some avs → resOf avs = r → (List.range obs.length).map O3.get = SO → t3.ok = ok → ∀ L3 ob3, RelM M3 L3 → RelO O3 N3 ob3 → ∃ avs, ResV P L3 ob3 fn.results.toList avs ∧ R (.ret (resOf avs)) ob3 := fun avs ha hb hc _ L3 ob3 hM3 hO3 => by
      obtain ⟨xs, e⟩ := range_get rfl (hc.trans h3.symm) hO3
      exact ⟨avs, resE_ok hM3 hO3 ha, by rw [hb, e]; exact hR xs⟩
    have fin : ok = t3.ok ∧ ∀ L3 ob3, RelM M3 L3 → RelO O3 N3 ob3 → bodyA P fn R x3 L3 ob3 := by
      cases x3 with
      | normal =>
        simp only [lastC] at h
        split at h
        · rename_i avs ha
          simp only [Option.some.injEq, Prod.mk.injEq] at h
          exact ⟨h.2.2.symm, aux avs ha h.1 h.2.1 h.2.2⟩
        · cases h
      | ret =>
        simp only [lastC] at h
        split at h
        · rename_i avs ha
          simp only [Option.some.injEq, Prod.mk.injEq] at h
          exact ⟨h.2.2.symm, aux avs ha h.1 h.2.1 h.2.2⟩
        · cases h
      | _ => simp [lastC] at h
    obtain ⟨rfl, k3⟩ := fin
    exact (((hrun3 hok ⟨L, ob, triM_rel _, triO_rel _⟩).2 _ _ (triM_rel _) (triO_rel _)).2 none K _ (.inl rfl)) fun L3 ob3 hM3 hO3 => k3 L3 ob3 hM3 hO3
/-- .. out of a loop -/
theorem brk_run {lo id : Nat} (hcf : CallOk P callf) (hm : P.follows .mixedOrders = true) {c B : Code} {L : Loc} {ob obs : List Ob} {r : AV} {gd : List Gi} {SO : List (Option Ob)} {ok : List Bool}
    (h : lastC P fn.results.toList obs.length (lastR P fn.ntmps callf pu lf id B (runCode P fn.ntmps callf pu lf c (triM L) (triO ob) ob.length ⟨lo, gd, []⟩)) = some (r, SO, ok)) (hok : allT ok = true) (h3 : obs.map some = SO) (hR : ∀ xs, R (.ret r) (obs ++ xs)) : Brk P fn K R id c B L ob := by
  cases hr2 : runCode P fn.ntmps callf pu lf c (triM L) (triO ob) ob.length ⟨lo, gd, []⟩ with
  | fail => rw [hr2] at h; simp [lastR, blockR, seqR, lastC] at h
  | ok x2 M2 O2 N2 t2 =>
    rw [hr2] at h
    obtain ⟨e2, hrun⟩ := runCode_ok hcf hm lf c hr2
    have fin : ∀ {x3 : AX} {M3 : Tri AV} {O3 : Tri Ob} {N3 : Nat} {t3 : TM}, lastC P fn.results.toList obs.length (.ok x3 M3 O3 N3 t3) = some (r, SO, ok) → ok = t3.ok ∧ ∀ L3 ob3, RelM M3 L3 → RelO O3 N3 ob3 → bodyA P fn R x3 L3 ob3 := by
      intro x3 M3 O3 N3 t3 hl
      have aux : ∀ avs, resE P M3 O3 fn.results.toList = some avs → resOf avs = r → (List.range obs.length).map O3.get = SO → ∀ L3 ob3, RelM M3 L3 → RelO O3 N3 ob3 → ∃ avs, ResV P L3 ob3 fn.results.toList avs ∧ R (.ret (resOf avs)) ob3 := fun avs ha hb hc L3 ob3 hM3 hO3 => by
        obtain ⟨xs, e⟩ := range_get rfl (hc.trans h3.symm) hO3
        exact ⟨avs, resE_ok hM3 hO3 ha, by rw [hb, e]; exact hR xs⟩
      cases x3 with
      | normal =>
        simp only [lastC] at hl
        split at hl
        · rename_i avs ha
          simp only [Option.some.injEq, Prod.mk.injEq] at hl
          exact ⟨hl.2.2.symm, aux avs ha hl.1 hl.2.1⟩
        · cases hl
      | ret =>
        simp only [lastC] at hl
        split at hl
        · rename_i avs ha
          simp only [Option.some.injEq, Prod.mk.injEq] at hl
          exact ⟨hl.2.2.symm, aux avs ha hl.1 hl.2.1⟩
        · cases hl
      | _ => simp [lastC] at hl
    cases x2 with
    | normal => simp [lastR, lastC] at h
    | ret =>
      obtain ⟨rfl, k3⟩ := fin (show lastC P fn.results.toList obs.length (.ok .ret M2 O2 N2 t2) = _ from h)
      refine (((hrun hok ⟨L, ob, triM_rel _, triO_rel _⟩).2 _ _ (triM_rel _) (triO_rel _)).2 none K _ (.inl rfl)) fun L2 ob2 hM2 hO2 => ?_
      exact k3 L2 ob2 hM2 hO2
    | exit j =>
      simp only [lastR, blockR] at h
      cases hj : Nat.beq j id with
      | false => rw [hj] at h; simp [seqR, lastC] at h
      | true =>
        rw [hj] at h
        have := Nat.eq_of_beq_eq_true hj
        subst this
        simp only [cond_true, seqR] at h
        cases hr3 : runCode P fn.ntmps callf pu lf B M2 O2 N2 t2 with
        | fail => rw [hr3] at h; simp [lastC] at h
        | ok x3 M3 O3 N3 t3 =>
          rw [hr3] at h
          obtain ⟨rfl, k3⟩ := fin h
          obtain ⟨e3, hrun3⟩ := runCode_ok hcf hm lf B hr3
          refine (((hrun (e3.ok hok) ⟨L, ob, triM_rel _, triO_rel _⟩).2 _ _ (triM_rel _) (triO_rel _)).2 none K _ (.inl rfl)) fun L2 ob2 hM2 hO2 => ?_
          show blockP j _ (.exit j) L2 ob2
          refine blk_same ?_
          refine (((hrun3 hok ⟨L2, ob2, hM2, hO2⟩).2 _ _ hM2 hO2).2 none K _ (.inl rfl)) fun L3 ob3 hM3 hO3 => k3 L3 ob3 hM3 hO3
    | goto j => simp [lastR, blockR, seqR, lastC] at h
    | panic av => simp [lastR, blockR, seqR, lastC] at h
/-- what a function is handed, to the first state -/
theorem fin_head {rest : Code} (hcf : CallOk P callf) (hm : P.follows .mixedOrders = true) {hs : List Code} {args : List AV} {ob : List Ob} (L' : Loc) (ob' : List Ob) {sel : List Nat} {gd : List Gi} {ok : List Bool} {N' lo : Nat} {SL : List (Option AV)} {SO : List (Option Ob)}
    (h : outR (L'.map (·.1)) sel (runL P fn.ntmps callf pu lf hs (argT 0 args .e) (triO ob) ob.length ⟨lo, gd, []⟩) = some (.normal, SL, SO, N', ok)) (hok : allT ok = true)
    (hn : nodupL sel = true) (hK : (List.range K).all (fun i => sel[i]? == some i) = true) (h2 : renL (fsel sel N') L' = SL) (h3 : ToldL (fsel sel N') SO ob') (k : Fin P fn K R rest L' ob') : Fin P fn K R (seqs hs rest) (argLoc 0 args) ob := by
  cases hr : runL P fn.ntmps callf pu lf hs (argT 0 args .e) (triO ob) ob.length ⟨lo, gd, []⟩ with
  | fail => rw [hr] at h; cases h
  | ok x1 M1 O1 N1 t1 =>
    rw [hr] at h
    simp only [outR, Option.some.injEq, Prod.mk.injEq] at h
    obtain ⟨rfl, q2, q3, rfl, rfl⟩ := h
    refine (runL_ok hcf hm hs hr).2 hok (argLoc 0 args) ob (relM_argT args) (triO_rel ob) K _ _ fun L1 ob1 hM hO => ?_
    have hl1 : ob1.length = N1 := hO.1
    rw [← q3] at h3
    obtain ⟨t1, t2⟩ := toldL_get h3
    exact tell_view ⟨nodupL_spec hn, by simpa using t1, fun i s X hi hX => by
      obtain ⟨Y, k1, k2⟩ := t2 i X hX
      rw [List.getElem?_map, hi] at k1
      simp only [Option.map_some, Option.some.injEq] at k1
      exact ⟨Y, by rw [← hO.2]; exact k1, by rw [hl1]; exact k2⟩, fun i hi => by
      have := List.all_eq_true.1 hK i (List.mem_range.2 hi)
      simpa using this, fun t av e => by
      rw [← hM t, hl1]
      exact lk_of_map (q2.trans h2.symm) t av e⟩ none _ _ k
theorem runL_app {H : Code} : ∀ (hs : List Code) (M : Tri AV) (O : Tri Ob) (N : Nat) (tm : TM), runL P n callf pu lf (hs ++ [H]) M O N tm = seqR (runCode P n callf pu lf H) (runL P n callf pu lf hs M O N tm) := by
  intro hs
  induction hs with
  | nil =>
    intro M O N tm
    show seqR (runL P n callf pu lf []) (runCode P n callf pu lf H M O N tm) = runCode P n callf pu lf H M O N tm
    cases runCode P n callf pu lf H M O N tm with
    | fail => rfl
    | ok x M O N t => cases x <;> rfl
  | cons h hs ih =>
    intro M O N tm
    show seqR (runL P n callf pu lf (hs ++ [H])) (runCode P n callf pu lf h M O N tm) = seqR _ (seqR (runL P n callf pu lf hs) (runCode P n callf pu lf h M O N tm))
    cases runCode P n callf pu lf h M O N tm with
    | fail => rfl
    | ok x M O N t => cases x <;> first | exact ih M O N t | rfl
/-- what a function is handed, to the first state at a loop's head, the loop, what is behind it -/
theorem fin_headLoop {id : Nat} {H c B : Code} (hcf : CallOk P callf) (hm : P.follows .mixedOrders = true) {hs : List Code} {args : List AV} {ob : List Ob} {ι : Type} (L : ι → Loc) (Bs : ι → List Ob) (I : ι → Prop) (μ : ι → Nat) (x : ι) (hx : I x) {sel : List Nat} {gd : List Gi} {ok : List Bool} {N' lo : Nat} {SL : List (Option AV)} {SO : List (Option Ob)}
    (h : outR ((L x).map (·.1)) sel (runL P fn.ntmps callf pu lf (hs ++ [H]) (argT 0 args .e) (triO ob) ob.length ⟨lo, gd, []⟩) = some (.normal, SL, SO, N', ok)) (hok : allT ok = true)
    (hn : nodupL sel = true) (hK : (List.range K).all (fun i => sel[i]? == some i) = true) (h2 : renL (fsel sel N') (L x) = SL) (h3 : ToldL (fsel sel N') SO (Bs x))
    (round : ∀ x, I x → (∃ y, I y ∧ μ y < μ x ∧ Piece P fn.ntmps K c (L x) (Bs x) .normal (L y) (Bs y)) ∨ Brk P fn K R id c B (L x) (Bs x)) : Fin P fn K R (seqs hs (.seq (.seq H (.block id (.loop c))) B)) (argLoc 0 args) ob := by
  rw [runL_app] at h
  cases hr : runL P fn.ntmps callf pu lf hs (argT 0 args .e) (triO ob) ob.length ⟨lo, gd, []⟩ with
  | fail => rw [hr] at h; cases h
  | ok x0 M0 O0 N0 t0 =>
    rw [hr] at h
    cases x0 with
    | normal =>
      simp only [seqR] at h
      cases hr2 : runCode P fn.ntmps callf pu lf H M0 O0 N0 t0 with
      | fail => rw [hr2] at h; cases h
      | ok x1 M1 O1 N1 t1 =>
        rw [hr2] at h
        simp only [outR, Option.some.injEq, Prod.mk.injEq] at h
        obtain ⟨rfl, q2, q3, rfl, rfl⟩ := h
        obtain ⟨e2, k2⟩ := runCode_ok hcf hm lf H hr2
        refine (runL_ok hcf hm hs hr).2 (e2.ok hok) (argLoc 0 args) ob (relM_argT args) (triO_rel ob) K _ _ fun L0 ob0 hM0 hO0 => ?_
        refine awp_seq (awp_seq ((((k2 hok ⟨L0, ob0, hM0, hO0⟩).2 L0 ob0 hM0 hO0).2 none K _ (.inl rfl)) fun L1 ob1 hM hO => ?_))
        have hl1 : ob1.length = N1 := hO.1
        rw [← q3] at h3
        obtain ⟨t1, t2⟩ := toldL_get h3
        exact tell_view ⟨nodupL_spec hn, by simpa using t1, fun i s X hi hX => by
          obtain ⟨Y, k1, k2⟩ := t2 i X hX
          rw [List.getElem?_map, hi] at k1
          simp only [Option.map_some, Option.some.injEq] at k1
          exact ⟨Y, by rw [← hO.2]; exact k1, by rw [hl1]; exact k2⟩, fun i hi => by
          have := List.all_eq_true.1 hK i (List.mem_range.2 hi)
          simpa using this, fun t av e => by
          rw [← hM t, hl1]
          exact lk_of_map (q2.trans h2.symm) t av e⟩ none _ _ (awp_block (awp_loopG (.inl rfl) L Bs I μ round x hx))
    | _ =>
      simp only [seqR, outR, Option.some.injEq, Prod.mk.injEq] at h
      cases h.1
/-- A FUNCTION BY PIECES -/
theorem aret_pcs {f : FuncId} {c : Code} {args : List AV} {ob ob' : List Ob} {r : AV} (hf : P.funcs[f]? = some fn) (hname : (fn.name == "runtime.NumGoroutine") = false) (hb : fn.body = some c) (hn : args.length ≤ fn.ntmps)
    (hl : ob.length ≤ ob'.length) (hr : r.und ob'.length = true) (hbl : ob'.all (Ob.und ob'.length) = true)
    (h : Fin P fn ob.length (fun e o => e = .ret r ∧ ∃ xs, o = ob' ++ xs) c (argLoc 0 args) ob) : ARet P f args ob [] r ob' := aret_of_awp hf hname hb hn hl hr hbl h
/-- .. told with less -/
theorem aret_told {f : FuncId} {args : List AV} {ob ob1 ob2 : List Ob} {r : AV} (h : ARet P f args ob [] r ob1) (hl : ob2.length = ob1.length) (ht : ∀ (i : Nat) (Y : Ob), ob2[i]? = some Y → Y = .dead ∨ ob1[i]? = some Y) : ARet P f args ob [] r ob2 := by
  refine ⟨h.1, fun m γ w vs hi hv => (h.2 m γ w vs hi hv).mono ?_⟩
  rintro e w' ⟨m', γ', r', o, ⟨rfl, rfl⟩, h2, h3, h4, h5⟩
  refine ⟨m', γ', _, ob2, ⟨rfl, rfl⟩, h2, h3, inv_tell h4 hl fun i Y hY => ?_, h5⟩
  rcases ht i Y hY with h | h
  · exact .inl h
  · by_cases hd : Y = .dead
    · exact .inl hd
    · exact .inr ⟨⟨Y, h, hd⟩, h4.obj i Y h⟩
theorem seqs_app (H : Code) (X : Code) : ∀ hs : List Code, seqs (hs ++ [H]) X = seqs hs (.seq H X)
  | [] => rfl
  | h :: hs => by simp only [List.cons_append, seqs, seqs_app H X hs]
end
end Go.Am
