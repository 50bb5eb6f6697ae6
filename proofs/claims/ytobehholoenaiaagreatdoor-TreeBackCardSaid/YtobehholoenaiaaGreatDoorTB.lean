/- The walk over a tree: what it comes to, by induction over trees. -/
import Derived.Test.YtobehholoenaiaaGreatDoorTA
namespace Go.Proofs.YtobehholoenaiaaGreatDoor
open Go.Am
/-- a piece by its run, whatever was touched before -/
theorem pieceL {P : Program} {n K lo : Nat} {pu : FuncId → Bool} {lf : Nat} {callf : CallF} (hcf : CallOk P callf) (hm : P.follows .mixedOrders = true) {c : Code} {L L' : Am.Loc} {ob ob' : List Ob} {x : AX} {sel : List Nat} {gd : List Gi} {ok : List Bool} {N' : Nat} {SL : List (Option AV)} {SO : List (Option Ob)}
    (h : outR (L'.map (·.1)) sel (runCode P n callf pu lf c (triM L) (triO ob) ob.length ⟨lo, gd, []⟩) = some (x, SL, SO, N', ok)) (hok : allT ok = true)
    (hx : plainX x = true) (hn : nodupL sel = true) (hK : (List.range K).all (fun i => sel[i]? == some i) = true) (h2 : renL (fsel sel N') L' = SL) (h3 : ToldL (fsel sel N') SO ob') : Piece P n K c L ob x L' ob' := by
  intro df Q hdo hq
  cases hr : runCode P n callf pu lf c (triM L) (triO ob) ob.length ⟨lo, gd, []⟩ with
  | fail => rw [hr] at h; cases h
  | ok x1 M1 O1 N1 t1 =>
    rw [hr] at h
    simp only [outR, Option.some.injEq, Prod.mk.injEq] at h
    obtain ⟨rfl, q2, q3, rfl, rfl⟩ := h
    have hrun := (runCode_ok hcf hm lf c hr).2 hok ⟨L, ob, triM_rel L, triO_rel ob⟩
    refine awp_viewD (((hrun.2 L ob (triM_rel L) (triO_rel ob)).2 df K _ hdo) fun L1 ob1 hM hO => ?_)
    have hl1 : ob1.length = N1 := hO.1
    rw [← q3] at h3
    obtain ⟨t1, t2⟩ := toldL_get h3
    refine ⟨L', ob', sel, ⟨nodupL_spec hn, by simpa using t1, fun i s X hi hX => ?_, fun i hi => ?_, fun t av e => ?_⟩, hx, hq⟩
    · obtain ⟨Y, k1, k2⟩ := t2 i X hX
      rw [List.getElem?_map, hi] at k1
      simp only [Option.map_some, Option.some.injEq] at k1
      exact ⟨Y, by rw [← hO.2]; exact k1, by rw [hl1]; exact k2⟩
    · have := List.all_eq_true.1 hK i (List.mem_range.2 hi)
      simpa using this
    · rw [← hM t, hl1]
      exact lk_of_map (q2.trans h2.symm) t av e
/-- a loop, its head in the loop's own sequence, and what is behind it -/
theorem awp_loopE {P : Program} {n K id : Nat} {H c B : Code} {Q : APost} {ι : Type} {L0 : Am.Loc} {ob0 : List Ob} (L : ι → Am.Loc) (Bs : ι → List Ob) (I : ι → Prop) (μ : ι → Nat) (x : ι) (hx : I x) (head : Piece P n K H L0 ob0 .normal (L x) (Bs x))
    (round : ∀ x, I x → (∃ y, I y ∧ μ y < μ x ∧ Piece P n K c (L x) (Bs x) .normal (L y) (Bs y)) ∨ (∃ Lx Bx, Piece P n K c (L x) (Bs x) (.exit id) Lx Bx ∧ awp none P n K [] B Q Lx Bx)) :
    awp none P n K [] (.seq (.seq H (.block id (.loop c))) B) Q L0 ob0 :=
  awp_seq (awp_seq (head none _ (.inl rfl) (awp_block (awp_rounds (.inl rfl) L Bs I μ (fun y hy => by
    rcases round y hy with h | ⟨Lx, Bx, h1, h2⟩
    · exact .inl h
    · exact .inr ⟨.exit id, Lx, Bx, by simp, blk_same h2, h1⟩) x hx))))
theorem ren_tv (f : Nat → Nat) (t : Tr) : (tv t).ren f = tv t := ren_pure _ _ (pure_tv t)
theorem ren_bx (f : Nat → Nat) (t : Tr) : (bx t).ren f = bx t := by simp [Ob.ren, renVals_pure _ _ (pure_cells t)]
theorem ren_rp (f : Nat → Nat) (p : List Nat) : (rp p).ren f = rp p := by simp [Ob.ren, renRows_pure _ _ (pure_rowsI p)]
theorem ren_ro (f : Nat → Nat) (i : Nat) : (ro i).ren f = ro i := by simp [Ob.ren, renRows, renVals, AV.ren]
/-- the first ten objects keep their numbers -/
def Low (f : Nat → Nat) : Prop := f 0 = 0 ∧ f 1 = 1 ∧ f 2 = 2 ∧ f 3 = 3 ∧ f 4 = 4 ∧ f 5 = 5 ∧ f 6 = 6 ∧ f 7 = 7 ∧ f 8 = 8 ∧ f 9 = 9
theorem ren_lp {f : Nat → Nat} (h : Low f) (t x : Tr) (w : Int) : (lp4 t x w).ren f = lp4 t x w := by
  obtain ⟨h0, h1, h2, h3, h4, h5, -⟩ := h
  simp [lp4, lpC, Ob.ren, renVals, AV.ren, ren_tv, h0, h1, h2, h3, h4, h5]
theorem ren_st {f : Nat → Nat} (h : Low f) (t x : Tr) (w n : Int) (path : AV) : (st t x w n path).map (Ob.ren f) = st t x w n (path.ren f) := by
  have e1 := ren_lp h t x w
  obtain ⟨h0, h1, h2, h3, h4, h5, h6, h7, h8, h9⟩ := h
  have e2 := ren_bx f t
  have e3 := ren_bx f x
  simp only [bx] at e2 e3
  simp only [st, List.map_cons, List.map_nil, e1, e2, e3]
  simp [Ob.ren, renVals, AV.ren, h6, h7, h8, h9]
theorem toldL_app {f : Nat → Nat} {Z : List (Option Ob)} {Z' : List Ob} (hz : ToldL f Z Z') : ∀ {A A' : List Ob}, A'.map (Ob.ren f) = A → ToldL f (A.map some ++ Z) (A' ++ Z')
  | [], [], _ => hz
  | a :: A, a' :: A', h => by
    simp only [List.map_cons, List.cons.injEq] at h
    obtain ⟨h1, h2⟩ := h
    exact ⟨h1 ▸ .same _, toldL_app hz h2⟩
  | [], _ :: _, h => by cases h
  | _ :: _, [], h => by cases h
theorem toldL_all {f : Nat → Nat} {A A' : List Ob} (h : A'.map (Ob.ren f) = A) : ToldL f (A.map some) A' := by
  have := toldL_app (f := f) (Z := []) (Z' := []) trivial h
  simpa using this
theorem und_tv (N : Nat) (t : Tr) : (tv t).und N = true := und_pure N _ (pure_tv t)
theorem und_cells (N : Nat) (t : Tr) : undVals N (cells t) = true := undVals_pure N _ (pure_cells t)
theorem und_rowsI (N : Nat) (p : List Nat) : undRows N (rowsI p) = true := undRows_pure N _ (pure_rowsI p)
/-- .. and so the walk's contract holds wherever the path's row stands -/
theorem walk_lift {t x v : Tr} {w n : Int} {q : List Nat} {obc' ob tail : List Ob} {o : Nat} (W : ARet Tryz.prog 27 (aw v) (st t x w n (.sr 10 1 0 q.length) ++ [rp q]) [] (B true) obc') (hob : ob = st t x w n (.sr o 1 0 q.length) ++ tail) (ho : ob[o]? = some (rp q)) (h10 : 10 ≤ o) (hl : 11 ≤ obc'.length) :
    ARet Tryz.prog 27 (aw v) ob [] (B true) (back ob [0, 1, 2, 3, 4, 5, 6, 7, 8, 9, o] [] obc') := by
  have hlow : Low (fsel [0, 1, 2, 3, 4, 5, 6, 7, 8, 9, o] ob.length) := ⟨rfl, rfl, rfl, rfl, rfl, rfl, rfl, rfl, rfl, rfl⟩
  have hnd : [0, 1, 2, 3, 4, 5, 6, 7, 8, 9, o].Nodup := by
    have : ([0, 1, 2, 3, 4, 5, 6, 7, 8, 9] ++ [o] : List Nat).Nodup := by
      refine List.nodup_append.2 ⟨by decide, by simp, fun a ha b hb e => ?_⟩
      simp at ha hb
      omega
    exact this
  have e := aret_lift W (sel := [0, 1, 2, 3, 4, 5, 6, 7, 8, 9, o]) (ob := ob) hnd ?_ (by simpa using hl)
  · have ea : renVals (fsel [0, 1, 2, 3, 4, 5, 6, 7, 8, 9, o] ob.length) (aw v) = aw v := by
      obtain ⟨-, -, -, -, -, -, -, h7, h8, h9⟩ := hlow
      simp [aw, renVals, AV.ren, ren_tv, h7, h8, h9]
    rw [ea] at e
    exact e
  · have es := ren_st hlow t x w n (.sr 10 1 0 q.length)
    have key : ∀ (sel : List Nat) (obc : List Ob) (f : Nat → Nat), sel.length = obc.length → (∀ (i s : Nat) (X : Ob), sel[i]? = some s → obc[i]? = some X → ob[s]? = some (X.ren f) ∧ X ≠ .dead) → SelOk ob f sel obc := by
      intro sel
      induction sel with
      | nil => intro obc f h _; cases obc with
        | nil => trivial
        | cons => simp at h
      | cons s sel ih => intro obc f h k; cases obc with
        | nil => simp at h
        | cons X obc => exact ⟨k 0 s X rfl rfl, ih obc f (by simpa using h) fun i s X h1 h2 => k (i + 1) s X (by simpa using h1) (by simpa using h2)⟩
    refine key _ _ _ rfl fun i s X h1 h2 => ?_
    have hi : i < 11 := by have := (List.getElem?_eq_some_iff.1 h1).1; simpa using this
    by_cases h : i = 10
    · subst h
      have h1' : o = s := by simpa using h1
      have h2' : rp q = X := by simpa [st] using h2
      subst h1'; subst h2'
      exact ⟨by rw [ho, ren_rp], by simp⟩
    · have hi' : i < 10 := by omega
      have hs : i = s := by
        have : ([0, 1, 2, 3, 4, 5, 6, 7, 8, 9] : List Nat)[i]? = some s := by
          rw [← h1, show [0, 1, 2, 3, 4, 5, 6, 7, 8, 9, o] = [0, 1, 2, 3, 4, 5, 6, 7, 8, 9] ++ [o] from rfl, List.getElem?_append_left (by simpa using hi')]
        have h0 : ([0, 1, 2, 3, 4, 5, 6, 7, 8, 9] : List Nat) = List.range 10 := rfl
        rw [h0, List.getElem?_range (by simpa using hi')] at this
        simpa using this
      subst hs
      have h2' : (st t x w n (.sr 10 1 0 q.length))[i]? = some X := by rw [← h2, List.getElem?_append_left (by simpa [st] using hi')]
      refine ⟨?_, ?_⟩
      · have ho2 : ob[i]? = (st t x w n (.sr o 1 0 q.length))[i]? := by rw [hob, List.getElem?_append_left (by simpa [st] using hi')]
        have := congrArg (fun l => l[i]?) es
        simp only [List.getElem?_map, h2', Option.map_some] at this
        exact ho2.trans this.symm
      · intro hd
        subst hd
        have : Ob.dead ∈ st t x w n (.sr 10 1 0 q.length) := List.mem_of_getElem? h2'
        simp [st, lp4] at this
theorem back_eq (ob : List Ob) (sel : List Nat) (obc : List Ob) : back ob sel [] obc = setAll ob sel ((obc.map (Ob.ren (fsel sel ob.length))).take sel.length) ++ (obc.map (Ob.ren (fsel sel ob.length))).drop sel.length := by
  simp [back, killObs, List.map_take, List.map_drop]
end Go.Proofs.YtobehholoenaiaaGreatDoor
