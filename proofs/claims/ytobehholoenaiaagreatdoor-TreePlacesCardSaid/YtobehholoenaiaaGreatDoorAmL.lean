/-
  An abstract machine, part L: calls as operations.
-/
import Derived.Test.YtobehholoenaiaaGreatDoorAmK
namespace Go.Am

/-- A call that returns just this. -/
def ARet (P : Program) (f : FuncId) (args : List AV) (ob : List Ob) (kk : List Nat) (r : AV) (ob' : List Ob) : Prop := ACalls P f args ob kk fun e o => e = .ret r ∧ o = ob'

theorem ACalls.mono {P : Program} {f : FuncId} {args : List AV} {ob : List Ob} {kk : List Nat} {R R' : AEnd → List Ob → Prop} (h : ACalls P f args ob kk R) (hr : ∀ e o, R e o → R' e o) : ACalls P f args ob kk R' :=
  ⟨h.1, fun m γ w vs hi hv => (h.2 m γ w vs hi hv).mono fun _e _w' ⟨m', γ', r, ob', h1, h2⟩ => ⟨m', γ', r, ob', hr _ _ h1, h2⟩⟩

/-- what is handed in: the callee's objects are these of the caller's -/
def SelOk (ob : List Ob) (f : Nat → Nat) : List Nat → List Ob → Prop
  | [], [] => True
  | s :: sel, X :: obc => (ob[s]? = some (X.ren f) ∧ X ≠ .dead) ∧ SelOk ob f sel obc
  | _, _ => False
theorem selOk_get {ob : List Ob} {f : Nat → Nat} : ∀ {sel : List Nat} {obc : List Ob}, SelOk ob f sel obc → sel.length = obc.length ∧ ∀ (i s : Nat) (X : Ob), sel[i]? = some s → obc[i]? = some X → ob[s]? = some (X.ren f) ∧ X ≠ .dead
  | [], [], _ => ⟨rfl, fun i s X h => by simp at h⟩
  | s :: sel, X :: obc, h => by
    obtain ⟨k1, k2⟩ := selOk_get h.2
    refine ⟨by simp [k1], fun i t Y ht hY => ?_⟩
    cases i with
    | zero => simp at ht hY; subst ht; subst hY; exact h.1
    | succ i => exact k2 i t Y (by simpa using ht) (by simpa using hY)
  | [], X :: obc, h => h.elim
  | s :: sel, [], h => h.elim

section
variable {P : Program} {n : Nat} {ops : Array Oper} {l : List Oper} {L : Loc} {ob : List Ob} {kf : List Rec → Loc → List Ob → Prop} {gu : Loc}
variable {dst : Option Nat} {ty : TypeId} {pos : String} {after : Array Edge} {guard : Option (Nat × Bool)}

theorem run_call {f : FuncId} {fn : Func} (hf : P.funcs[f]? = some fn) (hname : (fn.name == "runtime.NumGoroutine") = false) (hb : fn.body.isNone = false) {x : Operand} {args : List Operand} {ts : Array TypeId} {a : Act} {first cap : List Value}
    (hx : a.eval x = .func (.func f) first.toArray cap.toArray) (w : World) :
    (execOp a.eval ⟨dst, .call ⟨.value x, args.toArray, ts⟩, ty, pos, after, guard⟩).run P w = .ok (.enter f (first ++ args.map a.eval ++ cap).toArray) w := by
  have h1 : ¬ fn.name = "runtime.NumGoroutine" := by simpa using hname
  have h2 : ¬ fn.body = none := by intro e; simp [e] at hb
  simp [execOp, resolve, hx, Deferred.ofValue, invoke, callFunc, hf, h1, h2]

theorem wp_call {f : FuncId} {R : AEnd → List Ob → Prop} {kk sel : List Nat} {argsC : List AV} {obc : List Ob} (hc : ACalls P f argsC obc kk R) {m : Mem} {γ : Gam} {w : World} {a : Act} {K : Act → World → Prop} {Q : Exit → Act → World → Prop} (hi : Inv m γ ob w)
    (hn : sel.Nodup) (hsel : SelOk ob (fsel sel ob.length) sel obc) (hkk : ∀ k ∈ kk, k < sel.length) {x : Operand} {args : List Operand} {ts : Array TypeId} {first cap : List Value} (hx : a.eval x = .func (.func f) first.toArray cap.toArray)
    (hv : RepVals m γ (renVals (fsel sel ob.length) argsC) (first ++ args.map a.eval ++ cap)) (hR : ∀ e o, R e o → ∃ r, e = .ret r ∧ sel.length ≤ o.length)
    (hK : ∀ m' γ' w' v r obc', R (.ret r) obc' → Trans m γ w m' γ' w' → Le m γ (kk.map (fsel sel ob.length)) m' γ' → Inv m' γ' (back ob sel kk obc') w' → Rep m' γ' (r.ren (fsel sel ob.length)) v → K (a.put dst v) w') :
    Oper.wp P ⟨dst, .call ⟨.value x, args.toArray, ts⟩, ty, pos, after, guard⟩ a w K Q := by
  obtain ⟨⟨fn, hf, hname, hb⟩, hc⟩ := hc
  obtain ⟨hl, hget⟩ := selOk_get hsel
  unfold Oper.wp
  rw [run_call hf hname hb hx, Oper.upon_enter]
  refine (hc m _ w _ (inv_sel hi hn hl hget) ((repVals_ren _ _).2 hv)).mono ?_
  intro e w' ⟨m', γc, r, obc', h1, h2, h3, h4, h5⟩
  obtain ⟨r', rfl, hlen⟩ := hR _ _ h1
  cases e with
  | returned v =>
    obtain ⟨γ', g1, g2, g3, g4⟩ := inv_back hi hn hl hget hlen hkk h3 h4 h5
    refine hK m' γ' w' v r' obc' h1 g2 g3 g4 ((rep_ren r' v).1 ?_)
    rw [show (fun k => γ' (fsel sel ob.length k)) = γc from funext g1]
    exact h2
  | panicked chain => exact h2.elim
  | outgrown => exact h2.elim

theorem back_nil : back ob [] [] [] = ob := by simp [back, setAll, killObs]
/-- A call that sees no object. -/
theorem ev_call0 {f : FuncId} {args : List Operand} {avs : List AV} {xs : List (Operand × AV)} {ts : Array TypeId} {r : AV} (ha : EvA L args avs xs) (hc : ARet P f avs [] [] r []) (hp : pureVals avs = true) (hr : r.pure = true) (hg : Gd ops L guard gu) (hn : ∀ d, dst = some d → d < n)
    (kk : EvK P n ops l (updL L dst r []) ob (fun recs => kf (⟨dst, gu ++ uses xs, r, [], .pure⟩ :: recs))) :
    EvK P n ops (⟨dst, .call ⟨.value (.func f), args.toArray, ts⟩, ty, pos, after, guard⟩ :: l) L ob kf :=
  ev_any0 (o := ⟨dst, .call ⟨.value (.func f), args.toArray, ts⟩, ty, pos, after, guard⟩) xs (evA_all ha) hg hn (fun ob m γ w a K Q hi hx hK => by
    refine wp_call (sel := []) (obc := []) (ob := ob) hc hi List.nodup_nil trivial (by simp) (first := []) (cap := []) rfl ?_ (fun e o ⟨h1, h2⟩ => ⟨r, h1, Nat.zero_le _⟩) ?_
    · rw [renVals_pure _ _ hp]; simpa using evA_reps ha hx
    · rintro m' γ' w' v r' obc' ⟨h1, rfl⟩ h2 h3 h4 h5
      cases h1
      rw [ren_pure _ _ hr] at h5
      rw [back_nil] at h4
      exact hK m' γ' w' v h2 h3 h4 h5) kk
/-- A call that is handed some of the objects. -/
theorem ev_call2 {f : FuncId} {args : List Operand} {avs argsC : List AV} {xs : List (Operand × AV)} {ts : Array TypeId} {r : AV} {sel ks : List Nat} {obc obc' ob1 : List Ob} {r1 : AV} (ha : EvA L args avs xs) (hc : ARet P f argsC obc ks r obc') (hnd : sel.Nodup) (hsel : SelOk ob (fsel sel ob.length) sel obc)
    (hks : ∀ k ∈ ks, k < sel.length) (hav : renVals (fsel sel ob.length) argsC = avs) (hr : r.ren (fsel sel ob.length) = r1) (hlen : sel.length ≤ obc'.length) (hob : back ob sel ks obc' = ob1) (hg : Gd ops L guard gu) (hn : ∀ d, dst = some d → d < n)
    (kk : EvK P n ops l (updL L dst r1 (ks.map (fsel sel ob.length))) ob1 (fun recs => kf (⟨dst, gu ++ uses xs, r1, ks.map (fsel sel ob.length), .write⟩ :: recs))) :
    EvK P n ops (⟨dst, .call ⟨.value (.func f), args.toArray, ts⟩, ty, pos, after, guard⟩ :: l) L ob kf :=
  ev_any2 (o := ⟨dst, .call ⟨.value (.func f), args.toArray, ts⟩, ty, pos, after, guard⟩) _ xs (evA_all ha) hg hn (fun m γ w a K Q hi hx hK => by
    refine wp_call (sel := sel) (obc := obc) (ob := ob) hc hi hnd hsel hks (first := []) (cap := []) rfl ?_ (fun e o ⟨h1, h2⟩ => ⟨r, h1, by rw [h2]; exact hlen⟩) ?_
    · rw [hav]; simpa using evA_reps ha hx
    · rintro m' γ' w' v r' obc'' ⟨h1, rfl⟩ h2 h3 h4 h5
      cases h1
      rw [hr] at h5
      rw [hob] at h4
      exact hK m' γ' w' v h2 h3 h4 h5) kk
/-- .. and leaves them as they were. -/
theorem ev_call1 {f : FuncId} {args : List Operand} {avs argsC : List AV} {xs : List (Operand × AV)} {ts : Array TypeId} {r : AV} {sel : List Nat} {obc obc' : List Ob} {r1 : AV} (ha : EvA L args avs xs) (hc : ARet P f argsC obc [] r obc') (hnd : sel.Nodup) (hsel : SelOk ob (fsel sel ob.length) sel obc)
    (hav : renVals (fsel sel ob.length) argsC = avs) (hr : r.ren (fsel sel ob.length) = r1) (hlen : sel.length ≤ obc'.length) (hob : back ob sel [] obc' = ob) (hg : Gd ops L guard gu) (hn : ∀ d, dst = some d → d < n)
    (kk : EvK P n ops l (updL L dst r1 []) ob (fun recs => kf (⟨dst, gu ++ uses xs, r1, [], .read⟩ :: recs))) :
    EvK P n ops (⟨dst, .call ⟨.value (.func f), args.toArray, ts⟩, ty, pos, after, guard⟩ :: l) L ob kf := by
  have hkeep := keepL_append (gd_keep hg) (uses_keep (evA_all ha))
  refine evk_cons (rc := ⟨dst, gu ++ uses xs, r1, [], .read⟩) (keepL_sub hkeep) rfl hn ⟨rfl, rfl, fun m γ w a K Q hi hl hK => ?_⟩ kk
  have hw := gd_wanted (o := ⟨dst, .call ⟨.value (.func f), args.toArray, ts⟩, ty, pos, after, guard⟩) hg hkeep hl (fun p hp => by simp [hp])
  simp only [hw, if_true]
  have hx := repXs_of hkeep hl (evA_all ha) (fun p hp => by simp [hp])
  refine .inl ?_
  refine wp_call (sel := sel) (obc := obc) (ob := ob) hc hi hnd hsel (by simp) (first := []) (cap := []) rfl ?_ (fun e o ⟨h1, h2⟩ => ⟨r, h1, by rw [h2]; exact hlen⟩) ?_
  · rw [hav]; simpa using evA_reps ha hx
  · rintro m' γ' w' v r' obc'' ⟨h1, rfl⟩ h2 h3 h4 h5
    cases h1
    rw [hr] at h5
    rw [hob] at h4
    exact hK m' γ' w' v h2 h3 h4 h5

theorem dlt {d n : Nat} (h : Nat.blt d n = true) : ∀ e, some d = some e → e < n := by
  intro e he
  cases he
  simp [Nat.blt] at h; omega
theorem dno {n : Nat} : ∀ e : Nat, (none : Option Nat) = some e → e < n := by intro e he; cases he

end

mutual
/-- Names no object from N on. -/
def AV.und (N : Nat) : AV → Bool
  | .any => true
  | .v _ => true
  | .sl _ rows => undRows N rows
  | .ag cs => undVals N cs
  | .tu cs => undVals N cs
  | .pt o _ => Nat.blt o N
  | .pf cs => undVals N cs
  | .sr o _ _ _ => Nat.blt o N
  | .fn _ fs cs => undVals N fs && undVals N cs
  | .ifc _ y => y.und N
  | .mp o => Nat.blt o N
  | .yl o => Nat.blt o N
  | .cl _ rows => undRows N rows
def undVals (N : Nat) : List AV → Bool
  | [] => true
  | c :: cs => c.und N && undVals N cs
def undRows (N : Nat) : List (List AV) → Bool
  | [] => true
  | r :: rs => undVals N r && undRows N rs
end
theorem blt_free {o N : Nat} {ks : List Nat} (h : Nat.blt o N = true) (hk : ∀ k ∈ ks, N ≤ k) : (!ks.contains o) = true := by
  simp only [Bool.not_eq_true']
  cases hc : ks.contains o with
  | false => rfl
  | true =>
    simp only [List.contains_iff_mem] at hc
    have := hk o hc
    simp [Nat.blt] at h
    omega
section
variable {N : Nat} {ks : List Nat}
mutual
theorem und_free (hk : ∀ k ∈ ks, N ≤ k) : ∀ av : AV, av.und N = true → av.free ks = true
  | .any, _ => by simp [AV.free]
  | .v _, _ => by simp [AV.free]
  | .sl _ rows, h => by simp only [AV.und] at h; simp [AV.free, undRows_free hk rows h]
  | .ag cs, h => by simp only [AV.und] at h; simp [AV.free, undVals_free hk cs h]
  | .tu cs, h => by simp only [AV.und] at h; simp [AV.free, undVals_free hk cs h]
  | .pt o _, h => by simp only [AV.und] at h; simp only [AV.free]; exact blt_free h hk
  | .pf cs, h => by simp only [AV.und] at h; simp [AV.free, undVals_free hk cs h]
  | .sr o _ _ _, h => by simp only [AV.und] at h; simp only [AV.free]; exact blt_free h hk
  | .fn _ fs cs, h => by simp only [AV.und, Bool.and_eq_true] at h; simp [AV.free, undVals_free hk fs h.1, undVals_free hk cs h.2]
  | .ifc _ y, h => by simp only [AV.und] at h; simp [AV.free, und_free hk y h]
  | .mp o, h => by simp only [AV.und] at h; simp only [AV.free]; exact blt_free h hk
  | .yl o, h => by simp only [AV.und] at h; simp only [AV.free]; exact blt_free h hk
  | .cl _ rows, h => by simp only [AV.und] at h; simp [AV.free, undRows_free hk rows h]
theorem undVals_free (hk : ∀ k ∈ ks, N ≤ k) : ∀ cs : List AV, undVals N cs = true → freeVals ks cs = true
  | [], _ => by simp [freeVals]
  | c :: cs, h => by simp only [undVals, Bool.and_eq_true] at h; simp [freeVals, und_free hk c h.1, undVals_free hk cs h.2]
theorem undRows_free (hk : ∀ k ∈ ks, N ≤ k) : ∀ rows : List (List AV), undRows N rows = true → freeRows ks rows = true
  | [], _ => by simp [freeRows]
  | r :: rs, h => by simp only [undRows, Bool.and_eq_true] at h; simp [freeRows, undVals_free hk r h.1, undRows_free hk rs h.2]
end
end
mutual
theorem und_pure (N : Nat) : ∀ av : AV, av.pure = true → av.und N = true
  | .any, _ => by simp [AV.und]
  | .v _, _ => by simp [AV.und]
  | .sl _ rows, h => by simp only [AV.pure] at h; simp [AV.und, undRows_pure N rows h]
  | .ag cs, h => by simp only [AV.pure] at h; simp [AV.und, undVals_pure N cs h]
  | .tu cs, h => by simp only [AV.pure] at h; simp [AV.und, undVals_pure N cs h]
  | .pt _ _, h => by simp [AV.pure] at h
  | .pf cs, h => by simp only [AV.pure] at h; simp [AV.und, undVals_pure N cs h]
  | .sr _ _ _ _, h => by simp [AV.pure] at h
  | .fn _ fs cs, h => by simp only [AV.pure, Bool.and_eq_true] at h; simp [AV.und, undVals_pure N fs h.1, undVals_pure N cs h.2]
  | .ifc _ y, h => by simp only [AV.pure] at h; simp [AV.und, und_pure N y h]
  | .mp _, h => by simp [AV.pure] at h
  | .yl _, h => by simp [AV.pure] at h
  | .cl _ rows, h => by simp only [AV.pure] at h; simp [AV.und, undRows_pure N rows h]
theorem undVals_pure (N : Nat) : ∀ cs : List AV, pureVals cs = true → undVals N cs = true
  | [], _ => by simp [undVals]
  | c :: cs, h => by simp only [pureVals, Bool.and_eq_true] at h; simp [undVals, und_pure N c h.1, undVals_pure N cs h.2]
theorem undRows_pure (N : Nat) : ∀ rows : List (List AV), pureRows rows = true → undRows N rows = true
  | [], _ => by simp [undRows]
  | r :: rs, h => by simp only [pureRows, Bool.and_eq_true] at h; simp [undRows, undVals_pure N r h.1, undRows_pure N rs h.2]
end
def Ob.und (N : Nat) : Ob → Bool
  | .dead => true
  | .box _ cs => undVals N cs
  | .row _ _ rows => undRows N rows
  | .mp _ vals => undVals N vals
  | .lp _ _ _ cs => undVals N cs

/-- Objects that nobody names any more are forgotten. -/
theorem inv_drop {m : Mem} {γ : Gam} {ob xs : List Ob} {w : World} (hi : Inv m γ (ob ++ xs) w) (hb : ob.all (Ob.und ob.length) = true) :
    Inv m (fun o => if o < ob.length then γ o else none) ob w ∧ (∀ av x, av.und ob.length = true → Rep m γ av x → Rep m (fun o => if o < ob.length then γ o else none) av x) := by
  have hle : Le m γ (List.range' ob.length xs.length) m (fun o => if o < ob.length then γ o else none) := by
    refine ⟨fun _ _ h => h, fun o g hg hk => ?_⟩
    have h1 := hi.len o (by rw [hg]; simp)
    simp only [List.length_append] at h1
    by_cases ho : o < ob.length
    · simp [ho, hg]
    · exfalso
      have : (List.range' ob.length xs.length).contains o = true := by
        simp only [List.contains_iff_mem, List.mem_range'_1]; omega
      rw [this] at hk; cases hk
  have hks : ∀ k ∈ List.range' ob.length xs.length, ob.length ≤ k := fun k hk => (List.mem_range'_1.1 hk).1
  have hsome : ∀ o g, (if o < ob.length then γ o else none) = some g → o < ob.length ∧ γ o = some g := by
    intro o g h
    split at h
    · exact ⟨by assumption, h⟩
    · cases h
  refine ⟨⟨hi.mem, fun o X hX => ?_, fun o o' b C C' l1 l2 h1 h2 => ?_, fun o b C h => hi.dom o b C (hsome o _ h).2, fun o h => ?_⟩, fun av x hb hr => rep_le hle av x (und_free hks av hb) hr⟩
  · have ho := (List.getElem?_eq_some_iff.1 hX).1
    have h1 := hi.obj o X (by rw [List.getElem?_append_left ho]; exact hX)
    have hbX : X.und ob.length = true := List.all_eq_true.1 hb X (List.mem_of_getElem? hX)
    cases X with
    | dead => trivial
    | box T cells =>
      obtain ⟨b, cs, g1, g2, g3, g4⟩ := h1
      exact ⟨b, cs, by simp only [ho, if_true]; exact g1, g2, repVals_le hle _ _ (undVals_free hks _ hbX) g3, g4⟩
    | row T S rows =>
      rcases h1 with ⟨g1, g2⟩ | ⟨b, C, cs, g1, g2, g3, g4, g5, g6, g7, g8⟩
      · exact .inl ⟨by simp only [ho, if_true]; exact g1, g2⟩
      · exact .inr ⟨b, C, cs, by simp only [ho, if_true]; exact g1, g2, g3, g4, g5, g6, repVals_le hle _ _ (freeRows_flat (undRows_free hks _ hbX)) g7, g8⟩
    | mp keys vals =>
      obtain ⟨b, es, clock, g1, g2, g3, g4, g5⟩ := h1
      exact ⟨b, es, clock, by simp only [ho, if_true]; exact g1, g2, g3, repVals_le hle _ _ (undVals_free hks _ hbX) g4, g5⟩
    | lp busy k ts cs =>
      obtain ⟨b, r, xs, g1, g2, g3, g4, g5, g6⟩ := h1
      exact ⟨b, r, xs, by simp only [ho, if_true]; exact g1, g2, g3, repVals_le hle _ _ (undVals_free hks _ hbX) g4, g5, g6⟩
  · obtain ⟨o1, g1⟩ := hsome o _ h1
    obtain ⟨o2, g2⟩ := hsome o' _ h2
    have lv : ∀ k, k < ob.length → live ob k → live (ob ++ xs) k := by
      rintro k hk ⟨Y, hY, hne⟩
      exact ⟨Y, by rw [List.getElem?_append_left hk]; exact hY, hne⟩
    exact hi.sep o o' b C C' (lv o o1 l1) (lv o' o2 l2) g1 g2
  · by_cases ho : o < ob.length
    · exact ho
    · simp [ho] at h

/-- The end of a function: its own objects are forgotten. -/
theorem aret_drop {P : Program} {f : FuncId} {args : List AV} {ob ob' : List Ob} {kk : List Nat} {r : AV} (h : ACalls P f args ob kk fun e o => e = .ret r ∧ ∃ xs, o = ob' ++ xs) (hl : ob.length ≤ ob'.length) (hr : r.und ob'.length = true) (hb : ob'.all (Ob.und ob'.length) = true) :
    ARet P f args ob kk r ob' := by
  refine ⟨h.1, fun m γ w vs hi hv => (h.2 m γ w vs hi hv).mono ?_⟩
  rintro e w' ⟨m', γ', r', o, ⟨rfl, xs, rfl⟩, h2, h3, h4, h5⟩
  obtain ⟨k1, k2⟩ := inv_drop h4 hb
  have e1 : EndRep m' (fun o => if o < ob'.length then γ' o else none) e (.ret r) := by
    cases e with
    | returned v => exact k2 _ _ hr h2
    | panicked c => exact h2.elim
    | outgrown => exact h2.elim
  have e2 : ∀ k, k < w.heap.size → InG (fun o => if o < ob'.length then γ' o else none) k → InG γ k := by
    rintro k hk ⟨o, C, hg⟩
    simp only at hg
    split at hg
    · exact h3.gam k hk ⟨o, C, hg⟩
    · cases hg
  have e3 : ∀ o g, kk.contains o = false → γ o = some g → (if o < ob'.length then γ' o else none) = some g := by
    intro o g hk hg
    have := hi.len o (by rw [hg]; simp)
    rw [if_pos (by omega)]
    exact h5 o g hk hg
  exact ⟨m', _, _, ob', ⟨rfl, rfl⟩, e1, ⟨h3.mem, h3.new, e2, h3.os, h3.tape, h3.output, h3.size, h3.blk⟩, k1, e3⟩

/-! ### What stands for a value names no object that isn't there -/
section
variable {m : Mem} {γ : Gam} {N : Nat}
theorem blt_of {o N : Nat} (h : o < N) : Nat.blt o N = true := Nat.ble_eq_true_of_le h
mutual
theorem rep_und (hN : ∀ o, γ o ≠ none → o < N) : ∀ (av : AV) (x : Value), Rep m γ av x → av.und N = true
  | .any, _, _ => by simp [AV.und]
  | .v _, _, _ => by simp [AV.und]
  | .sl S rows, _, h => by
    simp only [Rep] at h
    obtain ⟨a, len, cap, _, _, _, h4⟩ := h
    simp only [AV.und]
    rcases h4 with h4 | ⟨b, off, _, h6⟩
    · subst h4; simp [undRows]
    · exact repRows_und hN S rows b off h6
  | .ag cs, _, h => by
    simp only [Rep] at h
    obtain ⟨xs, _, h2⟩ := h
    simp only [AV.und]
    exact repVals_und hN cs xs h2
  | .tu cs, _, h => by
    simp only [Rep] at h
    obtain ⟨xs, _, h2⟩ := h
    simp only [AV.und]
    exact repVals_und hN cs xs h2
  | .pt o off, _, h => by
    simp only [Rep] at h
    obtain ⟨b, C, h1, _⟩ := h
    simp only [AV.und]
    exact blt_of (hN o (by rw [h1]; simp))
  | .pf cs, _, h => by
    simp only [Rep] at h
    obtain ⟨b, off, _, h2⟩ := h
    simp only [AV.und]
    exact repCells_und hN cs b off h2
  | .sr o S lo len, _, h => by
    simp only [Rep] at h
    simp only [AV.und]
    rcases h with ⟨h1, _⟩ | ⟨b, C, cap, h1, _⟩
    · exact blt_of (hN o (by rw [h1]; simp))
    · exact blt_of (hN o (by rw [h1]; simp))
  | .fn f fs cs, _, h => by
    simp only [Rep] at h
    obtain ⟨xs, ys, _, h1, h2⟩ := h
    simp only [AV.und, repVals_und hN fs xs h1, repVals_und hN cs ys h2, Bool.and_self]
  | .ifc t y, _, h => by
    simp only [Rep] at h
    obtain ⟨z, _, h1⟩ := h
    simp only [AV.und]
    exact rep_und hN y z h1
  | .mp o, _, h => by
    simp only [Rep] at h
    obtain ⟨b, C, h1, _⟩ := h
    simp only [AV.und]
    exact blt_of (hN o (by rw [h1]; simp))
  | .yl o, _, h => by
    simp only [Rep] at h
    obtain ⟨b, C, h1, _⟩ := h
    simp only [AV.und]
    exact blt_of (hN o (by rw [h1]; simp))
  | .cl S rows, _, h => by
    simp only [Rep] at h
    obtain ⟨a, len, _, _, h4⟩ := h
    simp only [AV.und]
    rcases h4 with h4 | ⟨b, off, _, h6⟩
    · subst h4; simp [undRows]
    · exact repRows_und hN S rows b off h6
theorem repVals_und (hN : ∀ o, γ o ≠ none → o < N) : ∀ (cs : List AV) (xs : List Value), RepVals m γ cs xs → undVals N cs = true
  | [], _, _ => by simp [undVals]
  | c :: cs, _, h => by
    simp only [RepVals] at h
    obtain ⟨x, r, _, h1, h2⟩ := h
    simp only [undVals, rep_und hN c x h1, repVals_und hN cs r h2, Bool.and_self]
theorem repCells_und (hN : ∀ o, γ o ≠ none → o < N) : ∀ (cs : List AV) (b off : Nat), RepCells m γ cs b off → undVals N cs = true
  | [], _, _, _ => by simp [undVals]
  | c :: cs, b, off, h => by
    simp only [RepCells] at h
    obtain ⟨⟨x, _, h1⟩, h2⟩ := h
    simp only [undVals, rep_und hN c x h1, repCells_und hN cs b (off + 1) h2, Bool.and_self]
theorem repRows_und (hN : ∀ o, γ o ≠ none → o < N) (S : Nat) : ∀ (rows : List (List AV)) (b off : Nat), RepRows m γ S rows b off → undRows N rows = true
  | [], _, _, _ => by simp [undRows]
  | r :: rs, b, off, h => by
    simp only [RepRows] at h
    obtain ⟨_, h1, h2⟩ := h
    simp only [undRows, repCells_und hN r b off h1, repRows_und hN S rs b (off + S) h2, Bool.and_self]
end
theorem undVals_app {N : Nat} : ∀ {xs ys : List AV}, undVals N (xs ++ ys) = true → undVals N xs = true ∧ undVals N ys = true
  | [], ys, h => ⟨by simp [undVals], h⟩
  | x :: xs, ys, h => by
    simp only [List.cons_append, undVals, Bool.and_eq_true] at h
    obtain ⟨h1, h2⟩ := undVals_app h.2
    exact ⟨by simp [undVals, h.1, h1], h2⟩
theorem pureVals_app : ∀ {xs ys : List AV}, pureVals xs = true → pureVals ys = true → pureVals (xs ++ ys) = true
  | [], ys, _, h => h
  | x :: xs, ys, h, k => by
    simp only [pureVals, Bool.and_eq_true] at h
    simp only [List.cons_append, pureVals, h.1, pureVals_app h.2 k, Bool.and_self]
theorem undRows_flat {N : Nat} : ∀ {rows : List (List AV)}, undVals N rows.flatten = true → undRows N rows = true
  | [], _ => by simp [undRows]
  | r :: rs, h => by
    simp only [List.flatten_cons] at h
    obtain ⟨h1, h2⟩ := undVals_app h
    simp [undRows, h1, undRows_flat h2]
theorem obAt_und {w : World} {o : Nat} {X : Ob} (hN : ∀ o, γ o ≠ none → o < N) (h : ObAt m γ w o X) : X.und N = true := by
  cases X with
  | dead => rfl
  | box T cells =>
    obtain ⟨b, cs, g1, g2, g3, g4⟩ := h
    exact repVals_und hN _ _ g3
  | row T S rows =>
    rcases h with ⟨g1, g2⟩ | ⟨b, C, cs, g1, g2, g3, g4, g5, g6, g7, g8⟩
    · simp [Ob.und, g2, undRows]
    · exact undRows_flat (repVals_und hN _ _ g7)
  | mp keys vals =>
    obtain ⟨b, es, clock, g1, g2, g3, g4, g5⟩ := h
    exact repVals_und hN _ _ g4
  | lp busy k ts cs =>
    obtain ⟨b, r, xs, g1, g2, g3, g4, g5, g6⟩ := h
    exact repVals_und hN _ _ g4
theorem inv_und {ob : List Ob} {w : World} (hi : Inv m γ ob w) : ob.all (Ob.und ob.length) = true := by
  refine List.all_eq_true.2 fun X hX => ?_
  obtain ⟨o, ho⟩ := List.getElem?_of_mem hX
  exact obAt_und hi.len (hi.obj o X ho)
end
/-- A call that leaves what it was handed as it is and names none of its own: they are forgotten. -/
theorem aret_dropR {P : Program} {f : FuncId} {args : List AV} {ob : List Ob} {kk : List Nat} {r : AV} (h : ACalls P f args ob kk fun e o => e = .ret r ∧ ∃ xs, o = ob ++ xs) (hr : r.und ob.length = true) : ARet P f args ob kk r ob :=
  ⟨h.1, fun m γ w vs hi hv => (aret_drop h (Nat.le_refl _) hr (inv_und hi)).2 m γ w vs hi hv⟩

/-- What a function makes that is handed no object, it makes whatever objects there are. -/
theorem aret_push {P : Program} {f : FuncId} {args : List AV} {r : AV} {obs : List Ob} (h : ARet P f args [] [] r obs) (hp : pureVals args = true) (ob : List Ob) : ARet P f args ob [] (r.ren (fsel [] ob.length)) (ob ++ obs.map (Ob.ren (fsel [] ob.length))) := by
  refine ⟨h.1, fun m γ w vs hi hv => ?_⟩
  have hget : ∀ (i s : Nat) (X : Ob), ([] : List Nat)[i]? = some s → ([] : List Ob)[i]? = some X → ob[s]? = some (X.ren (fsel [] ob.length)) ∧ X ≠ .dead := fun i s X e => by simp at e
  refine (h.2 m _ w vs (inv_sel hi List.nodup_nil rfl hget) ((repVals_ren _ _).2 (by rw [renVals_pure _ _ hp]; exact hv))).mono ?_
  rintro e w' ⟨m', γc, r', obc', ⟨rfl, rfl⟩, h2, h3, h4, h5⟩
  obtain ⟨γ', g1, g2, g3, g4⟩ := inv_back hi (kk := []) List.nodup_nil rfl hget (Nat.zero_le _) (by simp) h3 h4 h5
  have hb : back ob [] [] obc' = ob ++ obc'.map (Ob.ren (fsel [] ob.length)) := by simp [back, setAll, killObs]
  rw [hb] at g4
  refine ⟨m', γ', _, _, ⟨rfl, rfl⟩, ?_, g2, g4, fun o g hk hg => g3.gam o g hg hk⟩
  cases e with
  | returned v =>
    have h2' : Rep m' γc r v := h2
    rw [← show (fun k => γ' (fsel [] ob.length k)) = γc from funext g1] at h2'
    exact (rep_ren _ _).1 h2'
  | panicked c => exact h2.elim
  | outgrown => exact h2.elim
/-- A function that hands back one plain value or struct and leaves the objects that it was handed as they are (or as 'ob'' says). -/
theorem aret_of_awp {P : Program} {f : FuncId} {fn : Func} {c : Code} {args : List AV} {ob ob' : List Ob} {kk : List Nat} {r : AV} (hf : P.funcs[f]? = some fn) (hname : (fn.name == "runtime.NumGoroutine") = false) (hb : fn.body = some c) (hn : args.length ≤ fn.ntmps)
    (hl : ob.length ≤ ob'.length) (hr : r.und ob'.length = true) (hbl : ob'.all (Ob.und ob'.length) = true)
    (h : awp none P fn.ntmps ob.length kk c (bodyA P fn fun e o => e = .ret r ∧ ∃ xs, o = ob' ++ xs) (argLoc 0 args) ob) : ARet P f args ob kk r ob' :=
  aret_drop (acalls_of_awp hf hname hb hn h) hl hr hbl

theorem kn {L : Loc} : KeepL L [] := trivial
theorem kc {L L3 : Loc} (t : Nat) {av : AV} (h : lk L t = some av) (r : KeepL L L3) : KeepL L ((t, av) :: L3) := ⟨h, r⟩
theorem blk_same {id : Nat} {Q : APost} {L : Loc} {ob : List Ob} (h : Q .normal L ob) : blockP id Q (.exit id) L ob := by simpa [blockP] using h
theorem blk_other {id j : Nat} {Q : APost} {L : Loc} {ob : List Ob} (hne : j ≠ id) (h : Q (.exit j) L ob) : blockP id Q (.exit j) L ob := by simpa [blockP, hne] using h
section
variable {P : Program} {n : Nat} {ops : Array Oper} {l : List Oper} {L : Loc} {ob : List Ob} {kf : List Rec → Loc → List Ob → Prop} {gu : Loc}
variable {dst : Option Nat} {ty : TypeId} {pos : String} {after : Array Edge} {guard : Option (Nat × Bool)}
theorem ev_add64 {x y : Operand} {t t' : TypeId} {a b : Int} (hx : aeval L x = some (.v (.int .i64 a))) (hy : aeval L y = some (.v (.int .i64 b))) (h0 : -9223372036854775808 ≤ a + b) (h1 : a + b ≤ 9223372036854775807) (hg : Gd ops L guard gu) (hn : ∀ d, dst = some d → d < n)
    (k : EvK P n ops l (updL L dst (.v (.int .i64 (a + b))) []) ob (fun recs => kf (⟨dst, gu ++ uses [(x, .v (.int .i64 a)), (y, .v (.int .i64 b))], .v (.int .i64 (a + b)), [], .pure⟩ :: recs))) :
    EvK P n ops (⟨dst, .binOp .add t x y t', ty, pos, after, guard⟩ :: l) L ob kf :=
  ev_ar rfl hx hy (wrap_i64 h0 h1) hg hn k
theorem ev_sub64 {x y : Operand} {t t' : TypeId} {a b : Int} (hx : aeval L x = some (.v (.int .i64 a))) (hy : aeval L y = some (.v (.int .i64 b))) (h0 : -9223372036854775808 ≤ a - b) (h1 : a - b ≤ 9223372036854775807) (hg : Gd ops L guard gu) (hn : ∀ d, dst = some d → d < n)
    (k : EvK P n ops l (updL L dst (.v (.int .i64 (a - b))) []) ob (fun recs => kf (⟨dst, gu ++ uses [(x, .v (.int .i64 a)), (y, .v (.int .i64 b))], .v (.int .i64 (a - b)), [], .pure⟩ :: recs))) :
    EvK P n ops (⟨dst, .binOp .sub t x y t', ty, pos, after, guard⟩ :: l) L ob kf :=
  ev_ar rfl hx hy (wrap_i64 h0 h1) hg hn k
end
end Go.Am
