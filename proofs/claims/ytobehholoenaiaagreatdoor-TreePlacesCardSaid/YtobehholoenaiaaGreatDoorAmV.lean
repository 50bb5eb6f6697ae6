/-
  An abstract machine, part V: from a contract by abstract values, seeing no object, to a call from the world in which a statement begins.
-/
import Derived.Test.YtobehholoenaiaaGreatDoorAmL
import Derived.RowKit3
import Derived.ReadAgain
import Derived.OpenShut
namespace Go.Am
open Go.ChangeShapes Go.WideShapes Go.RowKit

/-- Of what was there nothing turns. -/
def Left0 (W W' : World) : Prop := W'.os = W.os ∧ W'.output = W.output ∧ W.heap.size ≤ W'.heap.size ∧ ∀ i, i < W.heap.size → W'.heap[i]? = W.heap[i]?

theorem Left0.frame {W W' : World} (h : Left0 W W') (may : MemPlace → Prop) : W.keptBut W' may := by
  obtain ⟨h1, h2, h3, h4⟩ := h
  refine ⟨h1, h2, fun i hi => ?_⟩
  rw [h4 i hi]
  split
  · rename_i c t fr c' t' fr' e1 e2
    rw [e1] at e2; cases e2
    exact ⟨rfl, rfl, rfl, fun _ _ => rfl⟩
  · rename_i es cl es' cl' e1 e2
    rw [e1] at e2; cases e2
    exact .inr ⟨rfl, rfl⟩
  · rfl

theorem Left0.frozen {W W' : World} (h : Left0 W W') (a : Addr) (ha : a.block < W.heap.size) : W'.frozen? a = W.frozen? a := by
  simp only [World.frozen?, h.2.2.2 a.block ha]

/-- what lies in the world is known, the tables among it -/
def memOf (W : World) (h : ∀ a x, glob a = some x → W.cell? a = some x) : Mem := ⟨fun a => W.cell? a, h⟩
theorem inv_start (W : World) (hW : ∀ a x, glob a = some x → W.cell? a = some x) : Inv (memOf W hW) (fun _ => none) [] W :=
  ⟨fun _ _ h => h, fun o X h => by simp at h, fun o o' b C C' h => by obtain ⟨X, h, _⟩ := h; simp at h, fun o b C h => by simp at h, fun o h => by simp at h⟩

theorem calls_of_aret {P : Program} {f : FuncId} {args : List AV} {r : Value} (h : ARet P f args [] [] (.v r) []) (W : World) (hW : ∀ a x, glob a = some x → W.cell? a = some x) {vs : List Value} (hv : RepVals (memOf W hW) (fun _ => none) args vs) :
    Calls P f vs.toArray W fun e W' => e = .returned r ∧ Left0 W W' := by
  refine (h.2 _ _ W vs (inv_start W hW) hv).mono fun e W' ⟨m', γ', r', ob', ⟨h1, h2⟩, h3, h4, _, _⟩ => ?_
  subst h1
  have hn : ∀ k, ¬ InG (fun _ => none : Gam) k := fun k ⟨o, C, hk⟩ => by simp at hk
  refine ⟨?_, h4.os, h4.output, h4.size, fun i hi => h4.blk i hi (hn i)⟩
  cases e with
  | returned v => simp only [EndRep, Rep] at h3; rw [h3]
  | panicked c => exact h3.elim
  | outgrown => exact h3.elim

section
variable {H : Type} {enc : TypeId × Value → H} {P : Program}
/-- 'post_of_same' where of what was there nothing turns. -/
theorem post_of_left {f : Func} {s : ChangeSpec} {apart fresh handsOn again : Bool} {W W' : World} {args : Array Value} {v : Value} {ds gs : List (DataW H)} {before pa pv : List MemPlace}
    (hW : DataW.Whole enc P f.params.toList s.vars apart W args.toList ds gs before)
    (hres : ∀ (b : Nat) (sp : Nat → Bool) (hd : Bool), DataW.TrodAll enc P W' b sp hd f.resultTypes.toList (v.resultList f.resultTypes.size) (s.fn H (ds ++ gs)).results [])
    (hargs : ∀ sp : Nat → Bool, (∀ p ∈ before, sp p.block = true) → DataW.TrodAll enc P W' 0 sp true f.params.toList args.toList (s.fn H (ds ++ gs)).args pa)
    (hvars : ∀ sp : Nat → Bool, (∀ p ∈ before, sp p.block = true) → DataW.TrodVars enc P W' sp s.vars (s.fn H (ds ++ gs)).vars pv)
    (hps : before = pa ++ pv) (hk : Left0 W W')
    (hok : ∀ (j : Nat) (t : TypeId) (r : Value), f.resultTypes[j]? = some t → (v.resultList f.resultTypes.size)[j]? = some r → Value.okWide P W' .any 0 t r) :
    s.post enc P f apart fresh handsOn again W args v W' := by
  have hlt := hW.lt
  have hold : ∀ p ∈ before, (fun b => decide (b < W.heap.size)) p.block = true := fun p hp => by simpa using hlt p hp
  refine ⟨ds, gs, before, [], pa, pv, hW, hres _ _ _, hargs _ hold, hvars _ hold, hk.frame _, fun _ => ?_⟩
  · obtain ⟨_, _, _, _, _, hz, hn⟩ := hW
    refine ⟨hok, _, _, ([] ++ pa) ++ pv, ⟨[] ++ pa, pv, trodAll_append (hargs _ (fun _ _ => rfl)) (hres _ _ _), hvars _ (fun _ _ => rfl), rfl, ?_, ?_⟩, ?_⟩
    · intro b off hp
      have hp' : MemPlace.cell b off ∈ before := by rw [hps]; simpa using hp
      rw [hk.frozen _ (by simpa [MemPlace.block] using hlt _ hp')]
      exact hz b off hp'
    · intro ha
      have := hn ha
      rw [hps] at this
      simpa using this
    · intro p hp _
      rw [hps]
      simpa using hp

/-- Types among which a reading stays: the rows of the program's table, by a look through them. -/
def kidsB (P : Program) : Bool := (List.range P.types.size).all fun t =>
  match P.underlying t with
  | some (.pointer e) => decide (e < P.types.size)
  | some (.slice e) => decide (e < P.types.size) && decide (0 < P.cellsOf e)
  | some (.array n e) => decide (e < P.types.size) && decide (P.cellsOf t = n * P.cellsOf e)
  | some (.struct fs) => (fs.toList.all fun f => decide (f.type < P.types.size)) && decide (P.cellsOf t = (fs.toList.map fun f => P.cellsOf f.type).sum) &&
      (List.range fs.toList.length).all fun j => (fs.toList[j]?).all fun f => decide (f.offset = ((fs.toList.take j).map fun f => P.cellsOf f.type).sum)
  | some (.map _ e) => decide (e < P.types.size)
  | _ => true
theorem kids_of {P : Program} (h : kidsB P = true) : Kids P (fun t => t < P.types.size) ∧ ∀ t e, t < P.types.size → P.underlying t = some (.slice e) → 0 < P.cellsOf e := by
  have look : ∀ t, t < P.types.size → _ := fun t ht => List.all_eq_true.1 h t (List.mem_range.2 ht)
  refine ⟨⟨fun {t e} ht hu => ?_, fun {t e} ht hu => ?_, fun {t e n} ht hu => ?_, fun {t fs} ht hu => ?_, fun {t k e} ht hu => ?_⟩, fun t e ht hu => ?_⟩
  · have := look t ht; rw [hu] at this; simpa using this
  · have := look t ht; rw [hu] at this; simp only [Bool.and_eq_true, decide_eq_true_eq] at this; exact this.1
  · have := look t ht; rw [hu] at this; simpa only [Bool.and_eq_true, decide_eq_true_eq] using this
  · have := look t ht; rw [hu] at this
    simp only [Bool.and_eq_true, decide_eq_true_eq, List.all_eq_true, List.mem_range] at this
    obtain ⟨⟨h1, h2⟩, h3⟩ := this
    refine ⟨h1, h2, fun j f hj => ?_⟩
    obtain ⟨hlt, _⟩ := List.getElem?_eq_some_iff.1 hj
    have := h3 j hlt
    rw [hj] at this
    simpa using this
  · have := look t ht; rw [hu] at this; simpa using this
  · have := look t ht; rw [hu] at this; simp only [Bool.and_eq_true, decide_eq_true_eq] at this; exact this.2

/-- What reads thus reads thus again where of what was there nothing has turned. -/
theorem trodAll_left (hP : kidsB P = true) {W W' : World} (hk : Left0 W W') : ∀ {ts : List TypeId} {vs : List Value} {ds : List (DataW H)} {ps : List MemPlace}, (∀ t ∈ ts, t < P.types.size) →
    DataW.TrodAll enc P W 0 (fun _ => true) true ts vs ds ps → (∀ p ∈ ps, p.block < W.heap.size) → ∀ sp : Nat → Bool, (∀ p ∈ ps, sp p.block = true) → DataW.TrodAll enc P W' 0 sp true ts vs ds ps
  | [], _, _, _, _, h, _, _, _ => by
    obtain ⟨rfl, rfl, rfl⟩ := trodAll_nil h
    exact trodAll_mk0
  | t :: ts, _, _, _, hts, h, hlt, sp, hsp => by
    obtain ⟨v, vs1, d, ds1, p, q, rfl, rfl, rfl, ⟨n, h1⟩, h2⟩ := trodAll_cons h
    have hc := DataW.trod_carry (w' := W') n t _ _ h1 (fun x hx => by
      have hb := hlt x (List.mem_append_left _ hx)
      cases x with
      | cell b off => show W'.cell? _ = W.cell? _; simp only [World.cell?, hk.2.2.2 b hb]
      | map b => exact hk.2.2.2 b hb)
    exact trodAll_cons_mk ⟨n, DataW.trod_respare (kids_of hP).1 (kids_of hP).2 n t _ _ (hts t (List.mem_cons_self ..)) hc (fun x hx => hsp x (List.mem_append_left _ hx))⟩
      (trodAll_left hP hk (fun u hu => hts u (List.mem_cons_of_mem _ hu)) h2 (fun x hx => hlt x (List.mem_append_right _ hx)) sp (fun x hx => hsp x (List.mem_append_right _ hx)))

/-- THE CLOSE: the law returned true, and of what was there nothing has turned. -/
theorem post_true {f : Func} {s : ChangeSpec} {apart fresh handsOn again : Bool} {W W' : World} {args : Array Value} {ds gs : List (DataW H)} {before : List MemPlace} {tb : TypeId}
    (hW : DataW.Whole enc P f.params.toList s.vars apart W args.toList ds gs before) (hk : Left0 W W') (hP : kidsB P = true) (hts : f.params.toList.all (fun t => decide (t < P.types.size)) = true)
    (hv : s.vars = []) (hr : f.resultTypes = #[tb]) (hb : P.underlying tb = some .bool)
    (h1 : (s.fn H ds).results = [.lit (.bool true)]) (h2 : (s.fn H ds).args = ds) (h3 : (s.fn H ds).vars = []) :
    s.post enc P f apart fresh handsOn again W args (.bool true) W' := by
  have hW' := hW
  have hlt := hW.lt
  obtain ⟨p, q, hA, hV, rfl, _, _⟩ := hW
  rw [hv] at hV
  obtain ⟨rfl, rfl⟩ := trodVars_none hV
  have hts' : ∀ t ∈ f.params.toList, t < P.types.size := fun t ht => by simpa using List.all_eq_true.1 hts t ht
  refine post_of_left (pa := p) (pv := []) hW' ?_ ?_ ?_ rfl hk ?_
  · intro b sp hd
    rw [hr]
    simp only [List.append_nil, h1]
    exact trodAll_cons_mk (shut_bool hb _) trodAll_mk0
  · intro sp hsp
    simp only [List.append_nil, h2]
    exact trodAll_left hP hk hts' hA (fun x hx => hlt x (by simpa using hx)) sp (fun x hx => hsp x (by simpa using hx))
  · intro sp hsp
    rw [hv]
    simp only [List.append_nil, h3]
    rfl
  · exact ok_one (by rw [hr]) rfl (okWide_bool_mk hb _)
end
end Go.Am
