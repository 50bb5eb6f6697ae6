/-
  An abstract machine, part Lp: a function that is one loop between what goes ahead and what is behind, by runs of its pieces.
-/
import Derived.Test.YtobehholoenaiaaGreatDoorAmFz
namespace Go.Am

def seqs : List Code → Code → Code
  | [], r => r
  | h :: hs, r => .seq h (seqs hs r)
section
variable {P : Program} {n : Nat} {callf : CallF} {pu : FuncId → Bool} {lf : Nat}
theorem awp_pre {df : Option Nat} {c : Code} {Q : APost} {L' L : Loc} {ob' ob : List Ob} {sel : List Nat} (hv : View 0 L' ob' L ob sel) (h : awp df P n 0 [] c Q L ob) : awp df P n 0 [] c Q L' ob' := by
  intro m γ w a hi hl hs hd
  have hi2 := inv_sel hi hv.nodup hv.len hv.obs
  have hl2 : RepLoc m (fun k => γ (fsel sel ob'.length k)) a L := fun t av e => by
    obtain ⟨q1, q2⟩ := hl t _ (hv.slots t av e)
    exact ⟨q1, (rep_ren av _).2 q2⟩
  refine wpIn_mono (h m _ w a hi2 hl2 hs hd) ?_
  rintro e a1 w1 ⟨m1, γ1, L1, ob1, ax, h1, h2, h3, h4, h5, h6, h7, h8⟩
  refine ⟨m1, γ1, L1, ob1, ax, h1, h2, ⟨h3.mem, fun a x hx => ?_, fun k hk hg => ?_, h3.os, h3.tape, h3.output, h3.size, fun k hk hn => h3.blk k hk fun ⟨o, C, ho⟩ => hn ⟨_, C, ho⟩⟩, h4, h5, h6, h7, fun o g ho hg => absurd ho.1 (Nat.not_lt_zero _)⟩
  · rcases h3.new a x hx with h | h | ⟨o, C, ho⟩
    · exact .inl h
    · exact .inr (.inl h)
    · exact .inr (.inr ⟨_, C, ho⟩)
  · obtain ⟨o, C, ho⟩ := h3.gam k hk hg
    exact ⟨_, C, ho⟩
noncomputable def runL (P : Program) (n : Nat) (callf : CallF) (pu : FuncId → Bool) (lf : Nat) : List Code → Tri AV → Tri Ob → Nat → TM → RX
  | [], M, O, N, tm => .ok .normal M O N tm
  | h :: hs, M, O, N, tm => seqR (runL P n callf pu lf hs) (runCode P n callf pu lf h M O N tm)
theorem runL_ok (hcf : CallOk P callf) (hm : P.follows .mixedOrders = true) : ∀ (hs : List Code) {M M' : Tri AV} {O O' : Tri Ob} {N N' : Nat} {tm tm' : TM}, runL P n callf pu lf hs M O N tm = .ok .normal M' O' N' tm' →
    Ext tm tm' ∧ (allT tm'.ok = true → ∀ L ob, RelM M L → RelO O N ob → ∀ (K : Nat) (Q : APost) (rest : Code), (∀ L' ob', RelM M' L' → RelO O' N' ob' → awp none P n K [] rest Q L' ob') → awp none P n K [] (seqs hs rest) Q L ob)
  | [], M, M', O, O', N, N', tm, tm', h => by
    cases h
    exact ⟨Ext.refl _, fun _ L ob hM hO K Q rest hq => hq L ob hM hO⟩
  | c :: hs, M, M', O, O', N, N', tm, tm', h => by
    replace h : seqR (runL P n callf pu lf hs) (runCode P n callf pu lf c M O N tm) = .ok .normal M' O' N' tm' := h
    cases hc : runCode P n callf pu lf c M O N tm with
    | fail => rw [hc] at h; cases h
    | ok x M1 O1 N1 t1 =>
      rw [hc] at h
      cases x with
      | normal =>
        obtain ⟨e1, k1⟩ := runCode_ok hcf hm lf c hc
        obtain ⟨e2, k2⟩ := runL_ok hcf hm hs (show runL P n callf pu lf hs M1 O1 N1 t1 = _ from h)
        refine ⟨e1.trans e2, fun hok L ob hM hO K Q rest hq => ?_⟩
        have h1 := k1 (e2.ok hok) ⟨L, ob, hM, hO⟩
        exact awp_seq ((h1.2 L ob hM hO).2 none K _ (.inl rfl) fun L1 ob1 hM1 hO1 => k2 hok L1 ob1 hM1 hO1 K Q rest hq)
      | _ => simp [seqR] at h
/-- the end of a loop: the round that leaves it, and what is behind -/
noncomputable def lastR (P : Program) (n : Nat) (callf : CallF) (pu : FuncId → Bool) (lf : Nat) (id : Nat) (B : Code) : RX → RX
  | .ok .normal _ _ _ _ => .fail
  | r => seqR (runCode P n callf pu lf B) (blockR id r)
noncomputable def lastC (P : Program) (rs : List ResultVar) (k : Nat) : RX → Option (AV × List (Option Ob) × List Bool)
  | .ok .normal M O _ t => match resE P M O rs with
    | some avs => some (resOf avs, (List.range k).map O.get, t.ok)
    | none => none
  | .ok .ret M O _ t => match resE P M O rs with
    | some avs => some (resOf avs, (List.range k).map O.get, t.ok)
    | none => none
  | _ => none
def sideB (bs : List Ob) (sel : List Nat) : Bool := liveB bs && nodupL sel && Nat.beq sel.length bs.length
/-- from one state to another -/
def Step (P : Program) (n : Nat) (callf : CallF) (pu : FuncId → Bool) (lf : Nat) (c : Code) (L : Loc) (ob : List Ob) (L' : Loc) (ob' : List Ob) : Prop :=
  ∃ gd sel N' ok, outR (L'.map (·.1)) sel (runCode P n callf pu lf c (triM L) (triO ob) ob.length ⟨ob.length, gd, []⟩) = some (.normal, renL (fsel sel N') L', renO (fsel sel N') ob', N', ok) ∧ allT ok = true ∧ sideB ob' sel = true
def Head (P : Program) (n : Nat) (callf : CallF) (pu : FuncId → Bool) (lf : Nat) (hs : List Code) (args : List AV) (L' : Loc) (ob' : List Ob) : Prop :=
  ∃ gd sel N' ok, outR (L'.map (·.1)) sel (runL P n callf pu lf hs (argT 0 args .e) .e 0 ⟨0, gd, []⟩) = some (.normal, renL (fsel sel N') L', renO (fsel sel N') ob', N', ok) ∧ allT ok = true ∧ sideB ob' sel = true
def Last (P : Program) (n : Nat) (callf : CallF) (pu : FuncId → Bool) (lf : Nat) (id : Nat) (c B : Code) (rs : List ResultVar) (L : Loc) (ob : List Ob) (r : AV) (obs : List Ob) : Prop :=
  ∃ gd ok, lastC P rs obs.length (lastR P n callf pu lf id B (runCode P n callf pu lf c (triM L) (triO ob) ob.length ⟨ob.length, gd, []⟩)) = some (r, obs.map some, ok) ∧ allT ok = true
theorem step_of {c : Code} {L L' : Loc} {ob ob' : List Ob} {gd : List Gi} {sel : List Nat} {SL : List (Option AV)} {SO : List (Option Ob)} {N' : Nat} {ok : List Bool}
    (h : outR (L'.map (·.1)) sel (runCode P n callf pu lf c (triM L) (triO ob) ob.length ⟨ob.length, gd, []⟩) = some (.normal, SL, SO, N', ok)) (hok : allT ok = true) (hs : sideB ob' sel = true) (h2 : renL (fsel sel N') L' = SL) (h3 : renO (fsel sel N') ob' = SO) : Step P n callf pu lf c L ob L' ob' :=
  ⟨gd, sel, N', ok, by rw [h2, h3]; exact h, hok, hs⟩
theorem head_of {hs : List Code} {args : List AV} {L' : Loc} {ob' : List Ob} {gd : List Gi} {sel : List Nat} {SL : List (Option AV)} {SO : List (Option Ob)} {N' : Nat} {ok : List Bool}
    (h : outR (L'.map (·.1)) sel (runL P n callf pu lf hs (argT 0 args .e) .e 0 ⟨0, gd, []⟩) = some (.normal, SL, SO, N', ok)) (hok : allT ok = true) (hs2 : sideB ob' sel = true) (h2 : renL (fsel sel N') L' = SL) (h3 : renO (fsel sel N') ob' = SO) : Head P n callf pu lf hs args L' ob' :=
  ⟨gd, sel, N', ok, by rw [h2, h3]; exact h, hok, hs2⟩
theorem last_of {id : Nat} {c B : Code} {rs : List ResultVar} {L : Loc} {ob obs : List Ob} {r : AV} {gd : List Gi} {SO : List (Option Ob)} {ok : List Bool}
    (h : lastC P rs obs.length (lastR P n callf pu lf id B (runCode P n callf pu lf c (triM L) (triO ob) ob.length ⟨ob.length, gd, []⟩)) = some (r, SO, ok)) (hok : allT ok = true) (h3 : obs.map some = SO) : Last P n callf pu lf id c B rs L ob r obs :=
  ⟨gd, ok, by rw [h3]; exact h, hok⟩
theorem view_of {L' L1 : Loc} {ob' ob1 : List Ob} {M1 : Tri AV} {O1 : Tri Ob} {N1 : Nat} {sel : List Nat} (hM : RelM M1 L1) (hO : RelO O1 N1 ob1) (h2 : (L'.map (·.1)).map M1.get = renL (fsel sel N1) L') (h3 : sel.map O1.get = renO (fsel sel N1) ob') (hs : sideB ob' sel = true) : View 0 L1 ob1 L' ob' sel := by
  simp only [sideB, Bool.and_eq_true] at hs
  obtain ⟨⟨s1, s2⟩, s3⟩ := hs
  have hlen := Nat.eq_of_beq_eq_true s3
  have hl1 : ob1.length = N1 := hO.1
  refine ⟨nodupL_spec s2, hlen, fun i s X hi hX => ⟨?_, liveB_spec s1 X (List.mem_of_getElem? hX)⟩, fun i hi => absurd hi (Nat.not_lt_zero _), fun t av e => ?_⟩
  · have e1 : (sel.map O1.get)[i]? = some (O1.get s) := by rw [List.getElem?_map, hi]; rfl
    rw [h3, renO, List.getElem?_map, hX] at e1
    simp only [Option.map_some, Option.some.injEq] at e1
    rw [← hO.2, ← e1, hl1]
  · rw [← hM t, hl1]
    exact lk_of_map h2 t av e
theorem range_get {k : Nat} {O : Tri Ob} {obs : List Ob} (hl : obs.length = k) (h : (List.range k).map O.get = obs.map some) {N : Nat} {ob : List Ob} (hO : RelO O N ob) : ∃ xs, ob = obs ++ xs := by
  have hp : ∀ i, i < k → ob[i]? = obs[i]? := fun i hi => by
    have h3 : ((List.range k).map O.get)[i]? = some (O.get i) := by simp [hi]
    rw [h, List.getElem?_map] at h3
    cases ho : obs[i]? with
    | none => rw [ho] at h3; cases h3
    | some X => rw [ho] at h3; simp at h3; rw [← hO.2]; exact h3.symm
  refine ⟨ob.drop k, ?_⟩
  conv => lhs; rw [← List.take_append_drop k ob]
  congr 1
  apply List.ext_getElem?
  intro i
  rw [List.getElem?_take]
  split
  · rename_i hi; exact hp i hi
  · rename_i hi; rw [List.getElem?_eq_none (by omega)]
/-- A LOOP between states that are written out, and what is behind it to the function's end. -/
theorem awp_lp (hcf : CallOk P callf) (hm : P.follows .mixedOrders = true) {fn : Func} {id : Nat} {c B : Code} {r : AV} {obs : List Ob}
    {ι : Type} (L : ι → Loc) (Bs : ι → List Ob) (I : ι → Prop) (μ : ι → Nat) (x0 : ι) (hx0 : I x0)
    (round : ∀ x, I x → (∃ y, I y ∧ μ y < μ x ∧ Step P fn.ntmps callf pu lf c (L x) (Bs x) (L y) (Bs y)) ∨ Last P fn.ntmps callf pu lf id c B fn.results.toList (L x) (Bs x) r obs) :
    awp none P fn.ntmps 0 [] (.block id (.loop c)) (thenP (awp none P fn.ntmps 0 [] B (bodyA P fn fun e o => e = .ret r ∧ ∃ xs, o = obs ++ xs)) (bodyA P fn fun e o => e = .ret r ∧ ∃ xs, o = obs ++ xs)) (L x0) (Bs x0) := by
  refine awp_block (awp_loop L Bs I μ x0 hx0 (Sub.refl _) rfl fun x hx => ?_)
  rcases round x hx with ⟨y, hy, hlt, gd, sel, N', ok, k1, k2, k3⟩ | ⟨gd, ok, k1, k2⟩
  · cases hr2 : runCode P fn.ntmps callf pu lf c (triM (L x)) (triO (Bs x)) (Bs x).length ⟨(Bs x).length, gd, []⟩ with
    | fail => rw [hr2] at k1; cases k1
    | ok x2 M2 O2 N2 t2 =>
      rw [hr2] at k1
      simp only [outR, Option.some.injEq, Prod.mk.injEq] at k1
      obtain ⟨rfl, q2, q3, rfl, rfl⟩ := k1
      have hrun := (runCode_ok hcf hm lf c hr2).2 k2 ⟨L x, Bs x, triM_rel _, triO_rel _⟩
      refine awp_view (((hrun.2 _ _ (triM_rel _) (triO_rel _)).2 none 0 _ (.inl rfl)) fun L2 ob2 hM2 hO2 => ?_)
      exact ⟨L y, Bs y, sel, view_of hM2 hO2 q2 q3 k3, rfl, y, hy, hlt, Sub.refl _, rfl⟩
  · cases hr2 : runCode P fn.ntmps callf pu lf c (triM (L x)) (triO (Bs x)) (Bs x).length ⟨(Bs x).length, gd, []⟩ with
    | fail => rw [hr2] at k1; simp [lastR, blockR, seqR, lastC] at k1
    | ok x2 M2 O2 N2 t2 =>
      rw [hr2] at k1
      obtain ⟨e2, hrun⟩ := runCode_ok hcf hm lf c hr2
      have fin : ∀ {x3 : AX} {M3 : Tri AV} {O3 : Tri Ob} {N3 : Nat} {t3 : TM}, lastC P fn.results.toList obs.length (.ok x3 M3 O3 N3 t3) = some (r, obs.map some, ok) → ok = t3.ok ∧ ∀ L3 ob3, RelM M3 L3 → RelO O3 N3 ob3 → bodyA P fn (fun e o => e = .ret r ∧ ∃ xs, o = obs ++ xs) x3 L3 ob3 := by
        intro x3 M3 O3 N3 t3 hl
        have aux : ∀ avs, resE P M3 O3 fn.results.toList = some avs → resOf avs = r → (List.range obs.length).map O3.get = obs.map some → ∀ L3 ob3, RelM M3 L3 → RelO O3 N3 ob3 → ∃ avs, ResV P L3 ob3 fn.results.toList avs ∧ (AEnd.ret (resOf avs) = .ret r ∧ ∃ xs, ob3 = obs ++ xs) := fun avs ha hb hc L3 ob3 hM3 hO3 => ⟨avs, resE_ok hM3 hO3 ha, by rw [hb], range_get rfl hc hO3⟩
        cases x3 with
        | normal =>
          simp only [lastC] at hl
          split at hl
          · rename_i avs ha
            simp only [Option.some.injEq, Prod.mk.injEq] at hl
            exact ⟨hl.2.2.symm, fun L3 ob3 hM3 hO3 => aux avs ha hl.1 hl.2.1 L3 ob3 hM3 hO3⟩
          · cases hl
        | ret =>
          simp only [lastC] at hl
          split at hl
          · rename_i avs ha
            simp only [Option.some.injEq, Prod.mk.injEq] at hl
            exact ⟨hl.2.2.symm, fun L3 ob3 hM3 hO3 => aux avs ha hl.1 hl.2.1 L3 ob3 hM3 hO3⟩
          · cases hl
        | _ => simp [lastC] at hl
      cases x2 with
      | normal => simp [lastR, lastC] at k1
      | ret =>
        obtain ⟨rfl, k3⟩ := fin (show lastC P fn.results.toList obs.length (.ok .ret M2 O2 N2 t2) = _ from k1)
        refine (((hrun k2 ⟨L x, Bs x, triM_rel _, triO_rel _⟩).2 _ _ (triM_rel _) (triO_rel _)).2 none 0 _ (.inl rfl)) fun L2 ob2 hM2 hO2 => ?_
        exact k3 L2 ob2 hM2 hO2
      | exit j =>
        simp only [lastR, blockR] at k1
        cases hj : Nat.beq j id with
        | false => rw [hj] at k1; simp [seqR, lastC] at k1
        | true =>
          rw [hj] at k1
          have := Nat.eq_of_beq_eq_true hj
          subst this
          simp only [cond_true, seqR] at k1
          cases hr3 : runCode P fn.ntmps callf pu lf B M2 O2 N2 t2 with
          | fail => rw [hr3] at k1; simp [lastC] at k1
          | ok x3 M3 O3 N3 t3 =>
            rw [hr3] at k1
            obtain ⟨rfl, k3⟩ := fin k1
            obtain ⟨e3, hrun3⟩ := runCode_ok hcf hm lf B hr3
            refine (((hrun (e3.ok k2) ⟨L x, Bs x, triM_rel _, triO_rel _⟩).2 _ _ (triM_rel _) (triO_rel _)).2 none 0 _ (.inl rfl)) fun L2 ob2 hM2 hO2 => ?_
            show blockP j _ (.exit j) L2 ob2
            refine blk_same ?_
            refine (((hrun3 k2 ⟨L2, ob2, hM2, hO2⟩).2 _ _ hM2 hO2).2 none 0 _ (.inl rfl)) fun L3 ob3 hM3 hO3 => k3 L3 ob3 hM3 hO3
      | goto j => simp [lastR, blockR, seqR, lastC] at k1
      | panic av => simp [lastR, blockR, seqR, lastC] at k1
/-- A FUNCTION THAT IS A LOOP. -/
theorem aret_loop (hcf : CallOk P callf) (hm : P.follows .mixedOrders = true) {f : FuncId} {fn : Func} {hs : List Code} {id : Nat} {c B : Code} {args : List AV} {r : AV} {obs : List Ob} (hf : P.funcs[f]? = some fn) (hname : (fn.name == "runtime.NumGoroutine") = false)
    (hbody : fn.body = some (seqs hs (.seq (.block id (.loop c)) B))) (hn : args.length ≤ fn.ntmps) (hru : r.und obs.length = true) (hou : obs.all (Ob.und obs.length) = true)
    {ι : Type} (L : ι → Loc) (Bs : ι → List Ob) (I : ι → Prop) (μ : ι → Nat) (x0 : ι) (hx0 : I x0) (head : Head P fn.ntmps callf pu lf hs args (L x0) (Bs x0))
    (round : ∀ x, I x → (∃ y, I y ∧ μ y < μ x ∧ Step P fn.ntmps callf pu lf c (L x) (Bs x) (L y) (Bs y)) ∨ Last P fn.ntmps callf pu lf id c B fn.results.toList (L x) (Bs x) r obs) : ARet P f args [] [] r obs := by
  refine aret_of_awp hf hname hbody hn (Nat.zero_le _) hru hou ?_
  obtain ⟨gd, sel, N', ok, h1, h2, h3⟩ := head
  cases hr : runL P fn.ntmps callf pu lf hs (argT 0 args .e) .e 0 ⟨0, gd, []⟩ with
  | fail => rw [hr] at h1; cases h1
  | ok x1 M1 O1 N1 t1 =>
    rw [hr] at h1
    simp only [outR, Option.some.injEq, Prod.mk.injEq] at h1
    obtain ⟨rfl, g2, g3, rfl, rfl⟩ := h1
    refine (runL_ok hcf hm hs hr).2 h2 (argLoc 0 args) [] (relM_argT args) RelO.nil 0 _ _ fun L1 ob1 hM1 hO1 => ?_
    exact awp_pre (view_of hM1 hO1 g2 g3 h3) (awp_seq (awp_lp hcf hm L Bs I μ x0 hx0 round))
/-- .. with one more head in the loop's own sequence -/
theorem aret_loop2 (hcf : CallOk P callf) (hm : P.follows .mixedOrders = true) {f : FuncId} {fn : Func} {hs : List Code} {H : Code} {id : Nat} {c B : Code} {args : List AV} {r : AV} {obs : List Ob} (hf : P.funcs[f]? = some fn) (hname : (fn.name == "runtime.NumGoroutine") = false)
    (hbody : fn.body = some (seqs hs (.seq (.seq H (.block id (.loop c))) B))) (hn : args.length ≤ fn.ntmps) (hru : r.und obs.length = true) (hou : obs.all (Ob.und obs.length) = true)
    {ι : Type} (L : ι → Loc) (Bs : ι → List Ob) (I : ι → Prop) (μ : ι → Nat) (x0 : ι) (hx0 : I x0) (head : Head P fn.ntmps callf pu lf (hs ++ [H]) args (L x0) (Bs x0))
    (round : ∀ x, I x → (∃ y, I y ∧ μ y < μ x ∧ Step P fn.ntmps callf pu lf c (L x) (Bs x) (L y) (Bs y)) ∨ Last P fn.ntmps callf pu lf id c B fn.results.toList (L x) (Bs x) r obs) : ARet P f args [] [] r obs := by
  refine aret_of_awp hf hname hbody hn (Nat.zero_le _) hru hou ?_
  obtain ⟨gd, sel, N', ok, h1, h2, h3⟩ := head
  have split : ∀ (hs : List Code) (M : Tri AV) (O : Tri Ob) (N : Nat) (tm : TM), runL P fn.ntmps callf pu lf (hs ++ [H]) M O N tm = seqR (runCode P fn.ntmps callf pu lf H) (runL P fn.ntmps callf pu lf hs M O N tm) := by
    intro hs
    induction hs with
    | nil =>
      intro M O N tm
      show seqR (runL P fn.ntmps callf pu lf []) (runCode P fn.ntmps callf pu lf H M O N tm) = runCode P fn.ntmps callf pu lf H M O N tm
      cases runCode P fn.ntmps callf pu lf H M O N tm with
      | fail => rfl
      | ok x M O N t => cases x <;> rfl
    | cons h hs ih =>
      intro M O N tm
      show seqR (runL P fn.ntmps callf pu lf (hs ++ [H])) (runCode P fn.ntmps callf pu lf h M O N tm) = seqR _ (seqR (runL P fn.ntmps callf pu lf hs) (runCode P fn.ntmps callf pu lf h M O N tm))
      cases runCode P fn.ntmps callf pu lf h M O N tm with
      | fail => rfl
      | ok x M O N t => cases x <;> first | exact ih M O N t | rfl
  rw [split] at h1
  cases hr : runL P fn.ntmps callf pu lf hs (argT 0 args .e) .e 0 ⟨0, gd, []⟩ with
  | fail => rw [hr] at h1; cases h1
  | ok x0 M0 O0 N0 t0 =>
    rw [hr] at h1
    cases x0 with
    | normal =>
      simp only [seqR] at h1
      cases hr2 : runCode P fn.ntmps callf pu lf H M0 O0 N0 t0 with
      | fail => rw [hr2] at h1; cases h1
      | ok x1 M1 O1 N1 t1 =>
        rw [hr2] at h1
        simp only [outR, Option.some.injEq, Prod.mk.injEq] at h1
        obtain ⟨rfl, g2, g3, rfl, rfl⟩ := h1
        obtain ⟨e2, k2⟩ := runCode_ok hcf hm lf H hr2
        refine (runL_ok hcf hm hs hr).2 (e2.ok h2) (argLoc 0 args) [] (relM_argT args) RelO.nil 0 _ _ fun L0 ob0 hM0 hO0 => ?_
        refine awp_seq (awp_seq ((((k2 h2 ⟨L0, ob0, hM0, hO0⟩).2 L0 ob0 hM0 hO0).2 none 0 _ (.inl rfl)) fun L1 ob1 hM1 hO1 => ?_))
        exact awp_pre (view_of hM1 hO1 g2 g3 h3) (awp_lp hcf hm L Bs I μ x0 hx0 round)
    | _ =>
      simp only [seqR, outR, Option.some.injEq, Prod.mk.injEq] at h1
      cases h1.1
/-- out of a loop, to a state that is written out -/
def Exits (P : Program) (n : Nat) (callf : CallF) (pu : FuncId → Bool) (lf : Nat) (id : Nat) (c : Code) (L : Loc) (ob : List Ob) (L' : Loc) (ob' : List Ob) : Prop :=
  ∃ gd sel N' ok, outR (L'.map (·.1)) sel (runCode P n callf pu lf c (triM L) (triO ob) ob.length ⟨ob.length, gd, []⟩) = some (.exit id, renL (fsel sel N') L', renO (fsel sel N') ob', N', ok) ∧ allT ok = true ∧ sideB ob' sel = true
theorem exits_of {id : Nat} {c : Code} {L L' : Loc} {ob ob' : List Ob} {gd : List Gi} {sel : List Nat} {SL : List (Option AV)} {SO : List (Option Ob)} {N' : Nat} {ok : List Bool}
    (h : outR (L'.map (·.1)) sel (runCode P n callf pu lf c (triM L) (triO ob) ob.length ⟨ob.length, gd, []⟩) = some (.exit id, SL, SO, N', ok)) (hok : allT ok = true) (hs : sideB ob' sel = true) (h2 : renL (fsel sel N') L' = SL) (h3 : renO (fsel sel N') ob' = SO) : Exits P n callf pu lf id c L ob L' ob' :=
  ⟨gd, sel, N', ok, by rw [h2, h3]; exact h, hok, hs⟩
/-- the end of a function, by a run from a state that is written out -/
theorem awp_tail (hcf : CallOk P callf) (hm : P.follows .mixedOrders = true) {fn : Func} {B : Code} {L : Loc} {ob obs : List Ob} {r : AV} {gd : List Gi} {SO : List (Option Ob)} {ok : List Bool}
    (h : lastC P fn.results.toList obs.length (runCode P fn.ntmps callf pu lf B (triM L) (triO ob) ob.length ⟨ob.length, gd, []⟩) = some (r, SO, ok)) (hok : allT ok = true) (h3 : obs.map some = SO) :
    awp none P fn.ntmps 0 [] B (bodyA P fn fun e o => e = .ret r ∧ ∃ xs, o = obs ++ xs) L ob := by
  cases hr : runCode P fn.ntmps callf pu lf B (triM L) (triO ob) ob.length ⟨ob.length, gd, []⟩ with
  | fail => rw [hr] at h; simp [lastC] at h
  | ok x3 M3 O3 N3 t3 =>
    rw [hr] at h
    have aux : ∀ avs, resE P M3 O3 fn.results.toList = some avs → resOf avs = r → (List.range obs.length).map O3.get = obs.map some → ∀ L3 ob3, RelM M3 L3 → RelO O3 N3 ob3 → ∃ avs, ResV P L3 ob3 fn.results.toList avs ∧ (AEnd.ret (resOf avs) = .ret r ∧ ∃ xs, ob3 = obs ++ xs) := fun avs ha hb hc L3 ob3 hM3 hO3 => ⟨avs, resE_ok hM3 hO3 ha, by rw [hb], range_get rfl hc hO3⟩
    obtain ⟨e3, hrun3⟩ := runCode_ok hcf hm lf B hr
    have fin : ok = t3.ok ∧ ∀ L3 ob3, RelM M3 L3 → RelO O3 N3 ob3 → bodyA P fn (fun e o => e = .ret r ∧ ∃ xs, o = obs ++ xs) x3 L3 ob3 := by
      cases x3 with
      | normal =>
        simp only [lastC] at h
        split at h
        · rename_i avs ha
          simp only [Option.some.injEq, Prod.mk.injEq] at h
          exact ⟨h.2.2.symm, fun L3 ob3 hM3 hO3 => aux avs ha h.1 (h.2.1.trans h3.symm) L3 ob3 hM3 hO3⟩
        · cases h
      | ret =>
        simp only [lastC] at h
        split at h
        · rename_i avs ha
          simp only [Option.some.injEq, Prod.mk.injEq] at h
          exact ⟨h.2.2.symm, fun L3 ob3 hM3 hO3 => aux avs ha h.1 (h.2.1.trans h3.symm) L3 ob3 hM3 hO3⟩
        · cases h
      | _ => simp [lastC] at h
    obtain ⟨rfl, k3⟩ := fin
    exact (((hrun3 hok ⟨L, ob, triM_rel _, triO_rel _⟩).2 _ _ (triM_rel _) (triO_rel _)).2 none 0 _ (.inl rfl)) fun L3 ob3 hM3 hO3 => k3 L3 ob3 hM3 hO3
/-- AN OBJECT IS FROZEN on the way. -/
theorem awp_frz {df : Option Nat} {K : Nat} {c : Code} {Q : APost} {L L' : Loc} {ob ob2 : List Ob} {o : Nat} {X : Ob} (ho : ob[o]? = some X) (hX : (∃ T S rows, X = .row T S rows) ∨ ∃ Tb cells, X = .box Tb cells) (hl : ob2.length = ob.length)
    (hob : ∀ i Y Y', ob[i]? = some Y → ob2[i]? = some Y' → Y' = .dead ∨ (i ≠ o ∧ FrzOb o X Y Y')) (hL : ∀ t av', lk L' t = some av' → ∃ av, lk L t = some av ∧ Frz o X av av') (h : awp df P n K [] c Q L' ob2) : awp df P n K [] c Q L ob := by
  intro m γ w a hi hlc hs hd
  obtain ⟨m2, hm, hi2, ht⟩ := inv_freeze hi ho hX
  have hinv : Inv m2 γ ob2 w := inv_tell hi2 (by rw [hl, List.length_set]) fun i Y' hY' => by
    have hlt := (List.getElem?_eq_some_iff.1 hY').1
    obtain ⟨Y, hY⟩ : ∃ Y, ob[i]? = some Y := ⟨_, List.getElem?_eq_getElem (by omega)⟩
    by_cases hd : Y' = .dead
    · exact .inl hd
    rcases hob i Y Y' hY hY' with h6 | ⟨hne, h6⟩
    · exact .inl h6
    · have hset : (ob.set o Ob.dead)[i]? = some Y := by rw [List.getElem?_set_ne (Ne.symm hne)]; exact hY
      cases h6 with
      | same => exact .inr ⟨⟨_, hset, hd⟩, hi2.obj i _ hset⟩
      | any => exact .inl rfl
      | box hcs =>
        refine .inr ⟨⟨_, hset, by simp⟩, ?_⟩
        obtain ⟨b, cs, g1, g2, g3, g4⟩ := hi2.obj i _ hset
        obtain ⟨b', cs', g1', g2', g3', _⟩ := hi.obj i _ hY
        rw [g1] at g1'
        cases g1'
        rw [g2] at g2'
        cases g2'
        exact ⟨b, cs, g1, g2, hcs _ _ _ hm _ g3', g4⟩
  have hrl : RepLoc m2 γ a L' := fun t av' e => by
    obtain ⟨av, h1, h2⟩ := hL t av' e
    exact ⟨(hlc t av h1).1, h2 _ _ _ hm _ (hlc t av h1).2⟩
  refine wpIn_mono (h m2 γ w a hinv hrl hs hd) ?_
  rintro e a1 w1 ⟨m1, γ1, L1, ob1, ax, h1, h2, h3, h4, h5, h6, h7, h8⟩
  exact ⟨m1, γ1, L1, ob1, ax, h1, h2, ht.trans h3, h4, h5, h6, h7, h8⟩
/-- A FUNCTION THAT IS A LOOP, where the state behind the loop is told anew. -/
theorem aret_loop3 (hcf : CallOk P callf) (hm : P.follows .mixedOrders = true) {f : FuncId} {fn : Func} {hs : List Code} {H : Code} {id : Nat} {c B : Code} {args : List AV} {r : AV} {obs : List Ob} (hf : P.funcs[f]? = some fn) (hname : (fn.name == "runtime.NumGoroutine") = false)
    (hbody : fn.body = some (seqs hs (.seq (.seq H (.block id (.loop c))) B))) (hn : args.length ≤ fn.ntmps) (hru : r.und obs.length = true) (hou : obs.all (Ob.und obs.length) = true)
    {ι : Type} (L : ι → Loc) (Bs : ι → List Ob) (I : ι → Prop) (μ : ι → Nat) (x0 : ι) (hx0 : I x0) (head : Head P fn.ntmps callf pu lf (hs ++ [H]) args (L x0) (Bs x0))
    (round : ∀ x, I x → (∃ y, I y ∧ μ y < μ x ∧ Step P fn.ntmps callf pu lf c (L x) (Bs x) (L y) (Bs y)) ∨ (∃ Lx Bx, Exits P fn.ntmps callf pu lf id c (L x) (Bs x) Lx Bx ∧ awp none P fn.ntmps 0 [] B (bodyA P fn fun e o => e = .ret r ∧ ∃ xs, o = obs ++ xs) Lx Bx)) : ARet P f args [] [] r obs := by
  refine aret_of_awp hf hname hbody hn (Nat.zero_le _) hru hou ?_
  obtain ⟨gd, sel, N', ok, h1, h2, h3⟩ := head
  have split : ∀ (hs : List Code) (M : Tri AV) (O : Tri Ob) (N : Nat) (tm : TM), runL P fn.ntmps callf pu lf (hs ++ [H]) M O N tm = seqR (runCode P fn.ntmps callf pu lf H) (runL P fn.ntmps callf pu lf hs M O N tm) := by
    intro hs
    induction hs with
    | nil =>
      intro M O N tm
      show seqR (runL P fn.ntmps callf pu lf []) (runCode P fn.ntmps callf pu lf H M O N tm) = runCode P fn.ntmps callf pu lf H M O N tm
      cases runCode P fn.ntmps callf pu lf H M O N tm with
      | fail => rfl
      | ok x M O N t => cases x <;> rfl
    | cons h hs ih =>
      intro M O N tm
      show seqR (runL P fn.ntmps callf pu lf (hs ++ [H])) (runCode P fn.ntmps callf pu lf h M O N tm) = seqR _ (seqR (runL P fn.ntmps callf pu lf hs) (runCode P fn.ntmps callf pu lf h M O N tm))
      cases runCode P fn.ntmps callf pu lf h M O N tm with
      | fail => rfl
      | ok x M O N t => cases x <;> first | exact ih M O N t | rfl
  rw [split] at h1
  cases hr : runL P fn.ntmps callf pu lf hs (argT 0 args .e) .e 0 ⟨0, gd, []⟩ with
  | fail => rw [hr] at h1; cases h1
  | ok xh M0 O0 N0 t0 =>
    rw [hr] at h1
    cases xh with
    | normal =>
      simp only [seqR] at h1
      cases hr2 : runCode P fn.ntmps callf pu lf H M0 O0 N0 t0 with
      | fail => rw [hr2] at h1; cases h1
      | ok x1 M1 O1 N1 t1 =>
        rw [hr2] at h1
        simp only [outR, Option.some.injEq, Prod.mk.injEq] at h1
        obtain ⟨rfl, g2, g3, rfl, rfl⟩ := h1
        obtain ⟨e2, k2⟩ := runCode_ok hcf hm lf H hr2
        refine (runL_ok hcf hm hs hr).2 (e2.ok h2) (argLoc 0 args) [] (relM_argT args) RelO.nil 0 _ _ fun L0 ob0 hM0 hO0 => ?_
        refine awp_seq (awp_seq ((((k2 h2 ⟨L0, ob0, hM0, hO0⟩).2 L0 ob0 hM0 hO0).2 none 0 _ (.inl rfl)) fun L1 ob1 hM1 hO1 => ?_))
        refine awp_pre (view_of hM1 hO1 g2 g3 h3) ?_
        refine awp_block (awp_loop L Bs I μ x0 hx0 (Sub.refl _) rfl fun x hx => ?_)
        rcases round x hx with ⟨y, hy, hlt, gd, sel, N', ok, k1, k2, k3⟩ | ⟨Lx, Bx, ⟨gd, sel, N', ok, k1, k2, k3⟩, k4⟩
        · cases hr3 : runCode P fn.ntmps callf pu lf c (triM (L x)) (triO (Bs x)) (Bs x).length ⟨(Bs x).length, gd, []⟩ with
          | fail => rw [hr3] at k1; cases k1
          | ok x2 M2 O2 N2 t2 =>
            rw [hr3] at k1
            simp only [outR, Option.some.injEq, Prod.mk.injEq] at k1
            obtain ⟨rfl, q2, q3, rfl, rfl⟩ := k1
            have hrun := (runCode_ok hcf hm lf c hr3).2 k2 ⟨L x, Bs x, triM_rel _, triO_rel _⟩
            refine awp_view (((hrun.2 _ _ (triM_rel _) (triO_rel _)).2 none 0 _ (.inl rfl)) fun L2 ob2 hM2 hO2 => ?_)
            exact ⟨L y, Bs y, sel, view_of hM2 hO2 q2 q3 k3, rfl, y, hy, hlt, Sub.refl _, rfl⟩
        · cases hr3 : runCode P fn.ntmps callf pu lf c (triM (L x)) (triO (Bs x)) (Bs x).length ⟨(Bs x).length, gd, []⟩ with
          | fail => rw [hr3] at k1; cases k1
          | ok x2 M2 O2 N2 t2 =>
            rw [hr3] at k1
            simp only [outR, Option.some.injEq, Prod.mk.injEq] at k1
            obtain ⟨rfl, q2, q3, rfl, rfl⟩ := k1
            have hrun := (runCode_ok hcf hm lf c hr3).2 k2 ⟨L x, Bs x, triM_rel _, triO_rel _⟩
            refine awp_view (((hrun.2 _ _ (triM_rel _) (triO_rel _)).2 none 0 _ (.inl rfl)) fun L2 ob2 hM2 hO2 => ?_)
            refine ⟨Lx, Bx, sel, view_of hM2 hO2 q2 q3 k3, rfl, ?_⟩
            show blockP id _ (.exit id) Lx Bx
            exact blk_same k4
    | _ =>
      simp only [seqR, outR, Option.some.injEq, Prod.mk.injEq] at h1
      cases h1.1
end
end Go.Am
