/-
  An abstract machine, part Fa: all objects that a call made become memory that is never written again.
-/
import Derived.Test.YtobehholoenaiaaGreatDoorAmSl
namespace Go.Am

/-- what a run gives, frozen -/
noncomputable def frzC (K k : Nat) : CR → Option AV
  | .ret r O N t => match t.ok with
    | [] => cond (Nat.beq (Nat.mod t.lo (Nat.pow 2 K)) 0 && Nat.ble K N) (match frzV (objsL O N 0) K k r with
      | some r' => cond (r'.und K) (some r') none
      | none => none) none
    | _ => none
  | _ => none
/-- A CALL BY ITS RUN, all that it made frozen. -/
theorem aret_of_frz {P : Program} {callf : CallF} (hcf : CallOk P callf) {f : FuncId} {args : List AV} {ob : List Ob} {k : Nat} {r' : AV} {gd : List Gi} (h : frzC ob.length k (callf f args (triO ob) ob.length ⟨0, gd, []⟩) = some r') (hY : Nat.blt f yBase = true := by rfl) : ARet P f args ob [] r' ob := by
  cases hc : callf f args (triO ob) ob.length ⟨0, gd, []⟩ with
  | fail => rw [hc] at h; cases h
  | pan av O N t => rw [hc] at h; cases h
  | ret r O N t =>
    rw [hc] at h
    simp only [frzC] at h
    split at h
    rotate_left; · cases h
    rename_i hok
    cases hb : Nat.beq (Nat.mod t.lo (Nat.pow 2 ob.length)) 0 && Nat.ble ob.length N with
    | false => rw [hb] at h; cases h
    | true =>
      rw [hb] at h
      simp only [Bool.and_eq_true] at hb
      have hle := Nat.le_of_ble_eq_true hb.2
      simp only [cond_true] at h
      split at h
      rotate_left; · cases h
      rename_i r2 hr
      cases hu : r2.und ob.length with
      | false => rw [hu] at h; cases h
      | true =>
        rw [hu] at h
        cases h
        obtain ⟨obs, k1, k2, k3⟩ := ((hcf f args (triO ob) ob.length _).1 _ _ _ _ hc).2 (by rw [hok]; rfl) ob (triO_rel ob)
        rw [objsL_eq k1] at hr
        refine aret_frzAll (k2.1 (Nat.le_of_ble_eq_true hY)) k ?_ hr hu
        apply List.ext_getElem?
        intro i
        rw [List.getElem?_take]
        split
        · rename_i hi
          rw [← k1.2, k3 i (un_mod hb.1 hi)]
          exact (triO_rel ob).2 i
        · rename_i hi; rw [List.getElem?_eq_none (by omega)]
/-- ONE OBJECT that is handed in, wherever it stands. -/
theorem aret_sel {P : Program} {f : FuncId} {args : List AV} {X : Ob} {r : AV} (h : ARet P f args [X] [] r [X]) (hX : ∀ g, X.ren g = X) (hd : X ≠ .dead) (hr : r.pure = true) {ob : List Ob} {o : Nat} (ho : ob[o]? = some X) : ARet P f (renVals (fsel [o] ob.length) args) ob [] r ob := by
  refine ⟨h.1, fun m γ w vs hi hv => ?_⟩
  have hnd : [o].Nodup := List.nodup_cons.2 ⟨by simp, List.nodup_nil⟩
  have hget : ∀ (i s : Nat) (Y : Ob), [o][i]? = some s → [X][i]? = some Y → ob[s]? = some (Y.ren (fsel [o] ob.length)) ∧ Y ≠ .dead := fun i s Y e1 e2 => by
    cases i with
    | zero =>
      simp at e1 e2
      subst e1; subst e2
      exact ⟨by rw [hX]; exact ho, hd⟩
    | succ i => simp at e1
  refine (h.2 m _ w vs (inv_sel hi hnd rfl hget) ((repVals_ren _ _).2 hv)).mono ?_
  rintro e w' ⟨m', γc, r', obc', ⟨rfl, rfl⟩, h2, h3, h4, h5⟩
  obtain ⟨γ', g1, g2, g3, g4⟩ := inv_back hi (kk := []) hnd rfl hget (Nat.le_refl _) (by simp) h3 h4 h5
  have hb : back ob [o] [] [X] = ob := by
    simp only [back, List.length_cons, List.length_nil, List.take, List.drop, List.map_nil, List.map_cons, killObs, hX, setAll, List.append_nil]
    apply List.ext_getElem?
    intro i
    rw [List.getElem?_set]
    split
    · rename_i hio
      have hlt := (List.getElem?_eq_some_iff.1 ho).1
      subst hio
      rw [if_pos hlt]; exact ho.symm
    · rfl
  rw [hb] at g4
  refine ⟨m', γ', _, ob, ⟨rfl, rfl⟩, ?_, g2, g4, fun o g hk hg => g3.gam o g hg hk⟩
  cases e with
  | returned v =>
    have h2' : Rep m' γc r v := h2
    rw [← show (fun k => γ' (fsel [o] ob.length k)) = γc from funext g1, rep_ren, ren_pure _ _ hr] at h2'
    exact h2'
  | panicked c => exact h2.elim
  | outgrown => exact h2.elim
end Go.Am
