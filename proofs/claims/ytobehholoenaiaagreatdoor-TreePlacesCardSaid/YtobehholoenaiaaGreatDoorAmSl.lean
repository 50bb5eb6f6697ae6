/-
  An abstract machine, part Sl: a call that is handed one live variable and reads it: from a run, from the same call on memory; known ahead.
-/
import Derived.Test.YtobehholoenaiaaGreatDoorAmLp
namespace Go.Am
section
variable {P : Program} {f : FuncId} {Tb : TypeId} {cs ds rest : List AV} {r : AV}
theorem aret_of_runB {callf : CallF} (hcf : CallOk P callf) {tm : TM} {args : List AV} {ob obs : List Ob} {ok : List Bool} (h : outC (callf f args (triO ob) ob.length tm) = some (r, obs.map some, ok)) (hok : allT ok = true) (hY : Nat.blt f yBase = true := by rfl) : ARet P f args ob [] r obs := by
  cases hc : callf f args (triO ob) ob.length tm with
  | fail => rw [hc] at h; cases h
  | pan av O N t => rw [hc] at h; cases h
  | ret r1 O N t =>
    rw [hc] at h
    simp only [outC, Option.some.injEq, Prod.mk.injEq] at h
    obtain ⟨rfl, h2, rfl⟩ := h
    obtain ⟨ob1, k1, k2, _⟩ := ((hcf f args (triO ob) ob.length tm).1 _ _ _ _ hc).2 hok ob (triO_rel ob)
    have : ob1 = obs := by
      have hl : obs.length = N := by have := congrArg List.length h2; simpa using this.symm
      apply List.ext_getElem?
      intro i
      rw [← k1.2]
      by_cases hi : i < N
      · have h3 : ((List.range N).map O.get)[i]? = some (O.get i) := by simp [hi]
        rw [h2, List.getElem?_map] at h3
        cases ho : obs[i]? with
        | none => rw [ho] at h3; cases h3
        | some X => rw [ho] at h3; simp at h3; exact h3.symm
      · rw [k1.2, List.getElem?_eq_none (by rw [k1.1]; omega), List.getElem?_eq_none (by omega)]
    rw [← this]; exact k2.1 (Nat.le_of_ble_eq_true hY)
/-- ONE VARIABLE, wherever it stands among the objects. -/
theorem aret_at (h : ARet P f (.pt 0 0 :: rest) [.box Tb cs] [] r [.box Tb cs]) (hc : pureVals cs = true) (hp : pureVals rest = true) (hr : r.pure = true) {ob : List Ob} {o : Nat} (ho : ob[o]? = some (.box Tb cs)) : ARet P f (.pt o 0 :: rest) ob [] r ob := by
  have hlt := (List.getElem?_eq_some_iff.1 ho).1
  refine ⟨h.1, fun m γ w vs hi hv => ?_⟩
  have hnd : [o].Nodup := List.nodup_cons.2 ⟨by simp, List.nodup_nil⟩
  have hbox : ∀ g, Ob.ren g (.box Tb cs) = .box Tb cs := fun g => by simp [Ob.ren, renVals_pure _ _ hc]
  have hget : ∀ (i s : Nat) (X : Ob), [o][i]? = some s → [Ob.box Tb cs][i]? = some X → ob[s]? = some (X.ren (fsel [o] ob.length)) ∧ X ≠ .dead := fun i s X e1 e2 => by
    cases i with
    | zero =>
      simp at e1 e2
      subst e1; subst e2
      exact ⟨by rw [hbox]; exact ho, by simp⟩
    | succ i => simp at e1
  have hren : renVals (fsel [o] ob.length) (.pt 0 0 :: rest) = .pt o 0 :: rest := by
    simp only [renVals, AV.ren, renVals_pure _ _ hp]
    rw [fsel_lt (sel := [o]) (i := 0) (s := o) rfl]
  refine (h.2 m _ w vs (inv_sel hi hnd rfl hget) ((repVals_ren _ _).2 (by rw [hren]; exact hv))).mono ?_
  rintro e w' ⟨m', γc, r', obc', ⟨rfl, rfl⟩, h2, h3, h4, h5⟩
  obtain ⟨γ', g1, g2, g3, g4⟩ := inv_back hi (kk := []) hnd rfl hget (Nat.le_refl _) (by simp) h3 h4 h5
  have hb : back ob [o] [] [.box Tb cs] = ob := by
    simp only [back, List.length_cons, List.length_nil, List.take, List.drop, List.map_nil, List.map_cons, killObs, hbox, setAll, List.append_nil]
    apply List.ext_getElem?
    intro i
    rw [List.getElem?_set]
    split
    · rename_i hio
      subst hio
      exact ho.symm
    · rfl
  rw [hb] at g4
  refine ⟨m', γ', _, ob, ⟨rfl, rfl⟩, ?_, g2, g4, fun o g hk hg => g3.gam o g hg hk⟩
  cases e with
  | returned v =>
    have h2' : Rep m' γc r v := h2
    rw [← show (fun k => γ' (fsel [o] ob.length k)) = γc from funext g1, rep_ren, ren_pure _ _ hr] at h2'
    exact h2'
  | panicked c => exact h2.elim
  | outgrown => exact h2.elim
/-- .. known ahead -/
noncomputable def knB (ok : List AV → List AV → Prop) (r : List AV → List AV → AV) (args : List AV) (O : Tri Ob) (N : Nat) (tm : TM) : CR := match args with
  | .pt o off :: rest => match O.get o with
    | some (.box _ cs) => cond (Nat.beq off 0) (.ret (r cs rest) O N ((tm.at N).asks (dec (ok cs rest)))) .fail
    | _ => .fail
  | _ => .fail
noncomputable def knownB (f0 : FuncId) (ok : List AV → List AV → Prop) (r : List AV → List AV → AV) (callf : CallF) : CallF := fun f args O N tm => cond (Nat.beq f f0) (knB ok r args O N tm) (callf f args O N tm)
theorem knownB_ok {f0 : FuncId} {ok : List AV → List AV → Prop} {r : List AV → List AV → AV} {callf : CallF} (h : ∀ (Tb : TypeId) cs rest, ok cs rest → ARet P f0 (.pt 0 0 :: rest) [.box Tb cs] [] (r cs rest) [.box Tb cs] ∧ pureVals cs = true ∧ pureVals rest = true ∧ (r cs rest).pure = true) (hcf : CallOk P callf) (hY : Nat.blt f0 yBase = true := by rfl) : CallOk P (knownB f0 ok r callf) := fun f args O N tm => by
  unfold knownB
  cases hf : Nat.beq f f0 with
  | false => exact hcf f args O N tm
  | true =>
    have := Nat.eq_of_beq_eq_true hf
    subst this
    simp only [cond_true]
    unfold knB
    split
    · rename_i o off rest
      split
      · rename_i Tb cs hcs
        cases hoff : Nat.beq off 0 with
        | false => exact call_none P f _ O N tm
        | true =>
          have := Nat.eq_of_beq_eq_true hoff
          subst this
          simp only [cond_true]
          refine ⟨fun r' O1 N1 t1 e => ?_, fun av O1 N1 t1 e => by cases e⟩
          cases e
          refine ⟨⟨[_], rfl⟩, fun hok ob hO => ?_⟩
          simp only [TM.asks, TM.at, allT, Bool.and_eq_true] at hok
          obtain ⟨k1, k2, k3, k4⟩ := h Tb cs rest (dec_true.1 hok.1)
          exact ⟨ob, hO, fret_of hY <| aret_at k1 k2 k3 k4 (by rw [← hO.2]; exact hcs), fun i hi => rfl⟩
      · exact call_none P f _ O N tm
    · exact call_none P f _ O N tm
theorem repVals_v {m m' : Mem} {γ γ' : Gam} : ∀ {cs : List AV} {xs : List Value}, (∀ c ∈ cs, ∃ x, c = .v x) → RepVals m γ cs xs → RepVals m' γ' cs xs
  | [], xs, _, h => by simpa only [RepVals] using h
  | c :: cs, xs, hv, h => by
    simp only [RepVals] at h ⊢
    obtain ⟨x, r, rfl, h1, h2⟩ := h
    obtain ⟨y, rfl⟩ := hv c (by simp)
    exact ⟨x, r, rfl, by simpa only [Rep] using h1, repVals_v (fun c hc => hv c (List.mem_cons_of_mem _ hc)) h2⟩
theorem pure_pre : ∀ (cs ds : List AV), pureVals (cs ++ ds) = true → pureVals cs = true
  | [], _, _ => rfl
  | c :: cs, ds, h => by
    simp only [List.cons_append, pureVals, Bool.and_eq_true] at h ⊢
    exact ⟨h.1, pure_pre cs ds h.2⟩
theorem repCells_pre {m : Mem} {γ : Gam} : ∀ (cs ds : List AV) (b off : Nat), RepCells m γ (cs ++ ds) b off → RepCells m γ cs b off
  | [], _, _, _, _ => by simp only [RepCells]
  | c :: cs, ds, b, off, h => by
    rw [List.cons_append] at h
    simp only [RepCells] at h ⊢
    exact ⟨h.1, repCells_pre cs ds b (off + 1) h.2⟩
/-- what a call on memory does, where the memory is one live variable -/
theorem thaw_aux {R : AEnd → List Ob → Prop} (h : ACalls P f (.pf cs :: rest) [] [] R) (hc : pureVals (cs ++ ds) = true) (hp : pureVals rest = true) {m : Mem} {γ : Gam} {w : World} {vs : List Value} (hi : Inv m γ [.box Tb (cs ++ ds)] w) (hv : RepVals m γ (.pt 0 0 :: rest) vs) :
    Calls P f vs.toArray w fun e w' => ∃ m' γ' r ob', R r ob' ∧ EndRep m' γ' e r ∧ w'.os = w.os ∧ w'.tape = w.tape ∧ w'.output = w.output ∧ w.heap.size ≤ w'.heap.size ∧ (∀ k, k < w.heap.size → w'.heap[k]? = w.heap[k]?) ∧ (∀ a x, m a = some x → m' a = some x) ∧ (∀ o b C, γ' o = some (some (b, C)) → w.heap.size ≤ b) ∧ Inv m' γ' ob' w' := by
  obtain ⟨m2, hm, hi2, ht⟩ := inv_freeze hi (o := 0) (X := .box Tb (cs ++ ds)) rfl (.inr ⟨_, _, rfl⟩)
  have hpc : pureVals cs = true := pure_pre cs ds hc
  have hv2 : RepVals m2 γ (.pf cs :: rest) vs := by
    have h0 : RepVals m2 γ (.pf (cs ++ ds) :: rest) vs := (FrzL.cons (Frz.pt rfl) (FrzL.same rest)) _ _ _ hm _ hv
    simp only [RepVals, Rep] at h0 ⊢
    obtain ⟨x, r, e1, ⟨b, off, e2, h1⟩, h2⟩ := h0
    exact ⟨x, r, e1, ⟨b, off, e2, repCells_pre cs ds b off h1⟩, h2⟩
  obtain ⟨d1, d2⟩ := inv_drop (ob := []) (xs := [.dead]) hi2 rfl
  have hv3 := d2 (.tu (.pf cs :: rest)) (.tuple vs.toArray) (und_pure 0 _ (by simp [AV.pure, pureVals, hpc, hp])) (by simp only [Rep]; exact ⟨vs, rfl, hv2⟩)
  simp only [Rep] at hv3
  obtain ⟨vs', e1, hv4⟩ := hv3
  obtain rfl : vs = vs' := by simpa using e1
  have hno : ∀ k, ¬ InG (fun o => if o < ([] : List Ob).length then γ o else none) k := fun k ⟨o, C, h⟩ => by simp at h
  refine (h.2 m2 _ w vs d1 hv4).mono ?_
  rintro e w' ⟨m', γ', r0, o0, h1, h2, h3, h4, h5⟩
  refine ⟨m', γ', r0, o0, h1, h2, h3.os, h3.tape, h3.output, h3.size, fun k hk => h3.blk k hk (hno k), fun a x ha => h3.mem a x (hm.le.mem a x ha), fun o b C hg => ?_, h4⟩
  by_cases hb : w.heap.size ≤ b
  · exact hb
  · exact absurd (h3.gam b (by omega) ⟨o, C, hg⟩) (hno b)
/-- A CALL ON MEMORY, told again with a live variable: a plain result. -/
theorem aret_thaw {x : Value} (h : ARet P f (.pf cs :: rest) [] [] (.v x) []) (hc : pureVals (cs ++ ds) = true) (hp : pureVals rest = true) : ARet P f (.pt 0 0 :: rest) [.box Tb (cs ++ ds)] [] (.v x) [.box Tb (cs ++ ds)] := by
  refine ⟨h.1, fun m γ w vs hi hv => (thaw_aux h hc hp hi hv).mono ?_⟩
  rintro e w' ⟨m', γ', r0, o0, ⟨rfl, rfl⟩, h2, k1, k2, k3, k4, k5, k6, k7, h4⟩
  refine ⟨m, γ, _, _, ⟨rfl, rfl⟩, ?_, ⟨fun _ _ h => h, fun _ _ h => .inl h, fun _ _ h => h, k1, k2, k3, k4, fun k hk _ => k5 k hk⟩, ⟨fun a y ha => h4.mem a y (k6 a y ha), fun o X hX => ?_, hi.sep, fun o b C hg => Nat.lt_of_lt_of_le (hi.dom o b C hg) k4, hi.len⟩, fun _ _ _ h => h⟩
  · cases e with
    | returned v =>
      have h2' : Rep m' γ' (.v x) v := h2
      show Rep m γ (.v x) v
      simpa only [Rep] using h2'
    | panicked c => exact h2.elim
    | outgrown => exact h2.elim
  · cases o with
    | zero =>
      simp at hX
      subst hX
      obtain ⟨b, xs, g1, g2, g3, g4⟩ := hi.obj 0 _ rfl
      exact ⟨b, xs, g1, (k5 b (hi.dom 0 b 0 g1)).trans g2, g3, g4⟩
    | succ o => simp at hX
/-- .. a row that was made -/
theorem aret_thawRow {T S k : Nat} {rows : List (List AV)} (h : ARet P f (.pf cs :: rest) [] [] (.sr 0 S 0 k) [.row T S rows]) (hc : pureVals (cs ++ ds) = true) (hp : pureVals rest = true) (hrow : ∀ c ∈ rows.flatten, ∃ x, c = .v x) : ARet P f (.pt 0 0 :: rest) [.box Tb (cs ++ ds)] [] (.sr 1 S 0 k) [.box Tb (cs ++ ds), .row T S rows] := by
  refine ⟨h.1, fun m γ w vs hi hv => (thaw_aux h hc hp hi hv).mono ?_⟩
  rintro e w' ⟨m', γ', r0, o0, ⟨rfl, rfl⟩, h2, k1, k2, k3, k4, k5, k6, k7, h4⟩
  let γ1 : Gam := fun o => match o with
    | 0 => γ 0
    | 1 => γ' 0
    | _ => none
  have hkeep : ∀ o g, γ o = some g → γ1 o = some g := fun o g hg => by
    have := hi.len o (by rw [hg]; simp)
    have h0 : o = 0 := by simpa using this
    subst h0; exact hg
  have hle : Le m γ [] m γ1 := ⟨fun _ _ h => h, fun o g hg _ => hkeep o g hg⟩
  refine ⟨m, γ1, _, _, ⟨rfl, rfl⟩, ?_, ⟨fun _ _ h => h, fun _ _ h => .inl h, fun j hj ⟨o, C, hg⟩ => ?_, k1, k2, k3, k4, fun k hk _ => k5 k hk⟩, ⟨fun a y ha => h4.mem a y (k6 a y ha), fun o X hX => ?_, fun o o' b C C' l1 l2 g1 g2 => ?_, fun o b C hg => ?_, fun o hg => ?_⟩, fun o g _ hg => hkeep o g hg⟩
  · cases e with
    | returned v =>
      have h2' : Rep m' γ' (.sr 0 S 0 k) v := h2
      show Rep m γ1 (.sr 1 S 0 k) v
      simp only [Rep] at h2' ⊢
      exact h2'
    | panicked c => exact h2.elim
    | outgrown => exact h2.elim
  · match o, hg with
    | 0, hg => exact ⟨0, C, hg⟩
    | 1, hg => have := k7 0 j C hg; omega
  · match o, hX with
    | 0, hX =>
      simp at hX
      subst hX
      obtain ⟨b, xs, g1, g2, g3, g4⟩ := hi.obj 0 _ rfl
      exact ⟨b, xs, g1, (k5 b (hi.dom 0 b 0 g1)).trans g2, repVals_le hle _ _ (freeVals_nil _) g3, g4⟩
    | 1, hX =>
      simp at hX
      subst hX
      rcases h4.obj 0 _ rfl with ⟨g1, g2⟩ | ⟨b, C, xs, g1, g2, g3, g4, g5, g6, g7, g8⟩
      · exact .inl ⟨g1, g2⟩
      · refine .inr ⟨b, C, xs, g1, g2, g3, g4, g5, g6, repVals_v hrow g7, fun off => ?_⟩
        cases hm : m ⟨b, off, none⟩ with
        | none => rfl
        | some y =>
          have := k6 _ _ hm
          rw [g8] at this; cases this
    | o + 2, hX => simp at hX
  · match o, o', g1, g2 with
    | 0, 0, _, _ => rfl
    | 1, 1, _, _ => rfl
    | 0, 1, g1, g2 =>
      have q1 := hi.dom 0 b C g1
      have q2 := k7 0 b C' g2
      omega
    | 1, 0, g1, g2 =>
      have q1 := hi.dom 0 b C' g2
      have q2 := k7 0 b C g1
      omega
  · match o, hg with
    | 0, hg => exact Nat.lt_of_lt_of_le (hi.dom 0 b C hg) k4
    | 1, hg => exact h4.dom 0 b C hg
  · match o, hg with
    | 0, _ => simp
    | 1, _ => simp
    | o + 2, hg => exact absurd rfl hg
/-- .. told as memory -/
theorem aret_thawSl {T S k : Nat} {rows : List (List AV)} (h : ARet P f (.pf cs :: rest) [] [] (.sr 0 S 0 k) [.row T S rows]) (hk : k = rows.length) (hc : pureVals (cs ++ ds) = true) (hp : pureVals rest = true) (hrow : ∀ c ∈ rows.flatten, ∃ x, c = .v x) (hpr : pureRows rows = true) : ARet P f (.pt 0 0 :: rest) [.box Tb (cs ++ ds)] [] (.sl S rows) [.box Tb (cs ++ ds)] := by
  have h1 := aret_frz (ob2 := [.box Tb (cs ++ ds), .dead]) (aret_thawRow (Tb := Tb) h hc hp hrow) (o := 1) (X := .row T S rows) rfl (.inl ⟨_, _, _, rfl⟩) (Frz.sr0 rfl hk) rfl (fun i Y Y' e1 e2 => by
    match i with
    | 0 =>
      simp at e1 e2
      subst e1; subst e2
      exact .inr ⟨by omega, .same _⟩
    | 1 => simp at e2; exact .inl e2.symm
    | i + 2 => simp at e2)
  exact aret_drop (ob' := [.box Tb (cs ++ ds)]) (h1.mono fun e o hh => ⟨hh.1, [.dead], hh.2⟩) (Nat.le_refl _) (by simp [AV.und, undRows_pure _ rows hpr]) (by simp [Ob.und, undVals_pure _ _ hc])
end
end Go.Am
