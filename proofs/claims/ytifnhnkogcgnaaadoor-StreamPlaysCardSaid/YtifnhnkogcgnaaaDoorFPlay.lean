/-
  The tied card of StreamPlays is proved: for any input, any tokens and any acts the law returns true, and its arguments read behind the call as they read before. Conditions: those of the card itself (the tables of unicode/utf8 as the program's text lays them).
-/
import Derived.Test.YtifnhnkogcgnaaaDoorHB
import Derived.Test.YtifnhnkogcgnaaaDoorFR
import Derived.Test.YtifnhnkogcgnaaaDoorFW
import Derived.Test.YtifnhnkogcgnaaaDoorCards
import Derived.Test.YtifnhnkogcgnaaaDoorTie
namespace Go.Proofs.YtifnhnkogcgnaaaDoor
open Go.ChangeShapes Go.WideShapes Go.ChangeAt Go.RowKit Go.Am

def actRow (p : Int × Int) : List AV := [I p.1, I p.2]
section
variable {P : Program} {H : Type} {enc : TypeId × Value → H} {W : World} {hW : ∀ a x, glob a = some x → W.cell? a = some x} {base : Nat} {v : Value} {d : DataW H} {p : List MemPlace}
/-- two numbers, one behind the other -/
theorem acts_rep {t e : TypeId} {f0 f1 : Field} (ht : P.underlying t = some (.slice e)) (he : P.underlying e = some (.struct #[f0, f1])) (hc : P.cellsOf e = 2)
    (o0 : f0.offset = 0 ∧ P.underlying f0.type = some (.int .i64) ∧ P.cellsOf f0.type = 1) (o1 : f1.offset = 1 ∧ P.underlying f1.type = some (.int .i64) ∧ P.cellsOf f1.type = 1)
    (hval : Value.okWide P W .any base t v) (h : DataW.Trod enc P W 0 (fun _ => true) true t v d p) :
    ∃ l : List (Int × Int), Rep (memOf W hW) (fun _ => none) (.sl 2 (actR l)) v := by
  obtain ⟨a1, len, cap, rfl⟩ := okWide_slice ht hval
  obtain ⟨fuel, hf⟩ := h
  rcases DataW.trod_slice ht hf with ⟨hcs, _⟩ | ⟨a, len', cap', elems, rest, n, _, hcs, _, _, hl, _, hlen, hel, _, _⟩
  · simp [Value.cells] at hcs
    obtain ⟨rfl, rfl, rfl⟩ := hcs
    exact ⟨[], by simp only [Rep]; exact ⟨none, 0, 0, rfl, rfl, Nat.le_refl _, .inl rfl⟩⟩
  · simp [Value.cells] at hcs
    obtain ⟨rfl, rfl, rfl⟩ := hcs
    have each : ∀ i, i < len → ∃ t : Int × Int, ∀ j x, (actRow t)[j]? = some (.v x) → W.cell? (a.add (i * 2 + j)) = some x := by
      intro i hi
      have h1 := hel i hi
      rw [hc, List.getElem?_eq_getElem (by omega)] at h1
      simp only [Option.bind_eq_some_iff] at h1
      obtain ⟨cs, h2, h3⟩ := h1
      obtain ⟨hcl, hcell⟩ := cells_get h2
      obtain ⟨ys, m', _, _, _, hys, hfl⟩ := DataW.trod_struct he h3
      have hys' : ys.length = 2 := hys
      have at' : ∀ (i : Nat) (f : Field), #[f0, f1][i]? = some f → f.offset = i → P.underlying f.type = some (.int .i64) → P.cellsOf f.type = 1 → i < 2 → ∃ z : Int, cs[i]? = some (.int .i64 z) := by
        intro i f hfi ho hu hcf hi2
        have := hfl i f hfi
        rw [ho, hcf, List.getElem?_eq_getElem (by omega)] at this
        obtain ⟨z, h5, _⟩ := DataW.trod_int hu this
        exact ⟨z, take_one h5⟩
      obtain ⟨z0, e0⟩ := at' 0 f0 rfl o0.1 o0.2.1 o0.2.2 (by omega)
      obtain ⟨z1, e1⟩ := at' 1 f1 rfl o1.1 o1.2.1 o1.2.2 (by omega)
      refine ⟨(z0, z1), fun j x hj => ?_⟩
      have hadd : a.add (i * 2 + j) = (a.add (i * 2)).add j := (Addr.add_add _ _ _).symm
      match j with
      | 0 => simp [actRow] at hj; subst hj; rw [hadd, hcell 0 (by omega), e0]
      | 1 => simp [actRow] at hj; subst hj; rw [hadd, hcell 1 (by omega), e1]
      | j + 2 => simp [actRow] at hj
    have hall : ∃ l : List (Int × Int), l.length = len ∧ ∀ i t, l[i]? = some t → ∀ j x, (actRow t)[j]? = some (.v x) → W.cell? (a.add (i * 2 + j)) = some x := by
      have : ∀ k, k ≤ len → ∃ l : List (Int × Int), l.length = k ∧ ∀ i t, l[i]? = some t → ∀ j x, (actRow t)[j]? = some (.v x) → W.cell? (a.add (i * 2 + j)) = some x := by
        intro k
        induction k with
        | zero => intro _; exact ⟨[], rfl, by simp⟩
        | succ k ih =>
          intro hk
          obtain ⟨l, h1, h2⟩ := ih (by omega)
          obtain ⟨t, ht⟩ := each k (by omega)
          refine ⟨l ++ [t], by simp [h1], fun i u hu => ?_⟩
          by_cases hi : i < l.length
          · rw [List.getElem?_append_left hi] at hu; exact h2 i u hu
          · rw [List.getElem?_append_right (by omega)] at hu
            have hil : i = l.length := by
              have := (List.getElem?_eq_some_iff.1 hu).1
              simp at this; omega
            subst hil
            simp at hu
            subst hu
            rw [h1]; exact ht
      exact this len (Nat.le_refl _)
    obtain ⟨l, hll, hlc⟩ := hall
    refine ⟨l, ?_⟩
    simp only [Rep]
    refine ⟨some a, len, cap, rfl, by simp [actR]; omega, hl, ?_⟩
    by_cases h0 : len = 0
    · left
      have : l = [] := List.eq_nil_of_length_eq_zero (by omega)
      rw [this]; rfl
    · right
      obtain ⟨t0, ht0⟩ : ∃ t, l[0]? = some t := ⟨_, List.getElem?_eq_getElem (by omega)⟩
      obtain ⟨ab, ao, spot⟩ := a
      have hspot : spot = none := by simpa [Addr.add] using World.cell?_spot (hlc 0 t0 ht0 0 _ rfl)
      subst hspot
      refine ⟨ab, ao, rfl, repRows_of_get fun i r hr => ?_⟩
      unfold actR at hr
      rw [List.getElem?_map] at hr
      cases hti : l[i]? with
      | none => rw [hti] at hr; cases hr
      | some t =>
        rw [hti] at hr
        simp only [Option.map_some, Option.some.injEq] at hr
        change actRow t = r at hr
        subst hr
        refine ⟨rfl, repCells_of_get fun j c hcj => ?_⟩
        have hex : ∃ x, c = .v x := by
          match j with
          | 0 => simp [actRow] at hcj; exact ⟨_, hcj.symm⟩
          | 1 => simp [actRow] at hcj; exact ⟨_, hcj.symm⟩
          | j + 2 => simp [actRow] at hcj
        obtain ⟨x, rfl⟩ := hex
        have := hlc i t hti j x hcj
        rw [Addr.add_lit] at this
        exact ⟨x, by rw [show ao + i * 2 + j = ao + (i * 2 + j) from by omega]; exact this, by simp [Rep]⟩
end

theorem kids : kidsB Tryd.prog = true := by kernel_rfl

set_option maxRecDepth 100000 in
theorem play_contract (H : Type) (enc : TypeId × Value → H) (W : World) (base : Nat) (args : Array Value) (ds gs : List (DataW H)) (before : List MemPlace)
    (hval : ∀ (j : Nat) t v, Tryd.f4.params[j]? = some t → args[j]? = some v → Value.okWide Tryd.prog W .any base t v)
    (hW : DataW.Whole enc Tryd.prog Tryd.f4.params.toList Rows.streamPlaysSpec.vars false W args.toList ds gs before)
    (hT : ∀ a x, glob a = some x → W.cell? a = some x) :
    Calls Tryd.prog 4 args W fun e W' => ∃ v, e = .returned v ∧ Rows.streamPlaysSpec.post enc Tryd.prog Tryd.f4 false true false false W args v W' := by
  have hW' := hW
  obtain ⟨p, q, hA, hV, rfl, hfz, hnd⟩ := hW
  have hA' : DataW.TrodAll enc Tryd.prog W 0 (fun _ => true) true Tryd.f4.params.toList args.toList ds p := hA
  rw [Tryd.params4] at hA' hval
  obtain ⟨v0, vs0, d0, ds0, p0, q0, hargs, rfl, rfl, h0, r0⟩ := trodAll_cons hA'
  obtain ⟨v1, vs1, d1, ds1, p1, q1, rfl, rfl, rfl, h1, r1⟩ := trodAll_cons r0
  obtain ⟨v2, vs2, d2, ds2, p2, q2, rfl, rfl, rfl, h2, r2⟩ := trodAll_cons r1
  obtain ⟨rfl, rfl, rfl⟩ := trodAll_nil r2
  obtain rfl : args = #[v0, v1, v2] := by cases args; simp_all
  obtain ⟨bs, hb, hr0⟩ := bytes_rep (hW := hT) (show Tryd.prog.underlying 22 = some (.slice 5) from by kernel_rfl) (by kernel_rfl) (by kernel_rfl) (hval 0 22 v0 rfl rfl) h0
  obtain ⟨F0, F1, F2, F3, hst, k0, k1, k2, k3⟩ : ∃ F0 F1 F2 F3 : Field, Tryd.prog.underlying 43 = some (.struct #[F0, F1, F2, F3]) ∧ (F0.offset = 0 ∧ Tryd.prog.underlying F0.type = some (.int .i64) ∧ Tryd.prog.cellsOf F0.type = 1) ∧ (F1.offset = 1 ∧ Tryd.prog.underlying F1.type = some (.int .i64) ∧ Tryd.prog.cellsOf F1.type = 1) ∧
      (F2.offset = 2 ∧ Tryd.prog.underlying F2.type = some (.int .i64) ∧ Tryd.prog.cellsOf F2.type = 1) ∧ (F3.offset = 3 ∧ Tryd.prog.underlying F3.type = some (.int .i64) ∧ Tryd.prog.cellsOf F3.type = 1) :=
    ⟨⟨ "Type", 3, 0, false, "", "", 0⟩, ⟨ "Channel", 3, 1, false, "", "", 8⟩, ⟨ "From", 3, 2, false, "", "", 16⟩, ⟨ "To", 3, 3, false, "", "", 24⟩, by kernel_rfl, ⟨rfl, by kernel_rfl, by kernel_rfl⟩, ⟨rfl, by kernel_rfl, by kernel_rfl⟩, ⟨rfl, by kernel_rfl, by kernel_rfl⟩, ⟨rfl, by kernel_rfl, by kernel_rfl⟩⟩
  obtain ⟨l, hr1⟩ := toks_rep (hW := hT) (show Tryd.prog.underlying 23 = some (.slice 43) from by kernel_rfl) hst (by kernel_rfl) k0 k1 k2 k3 (hval 1 23 v1 rfl rfl) h1
  obtain ⟨A0, A1, hsa, j0, j1⟩ : ∃ A0 A1 : Field, Tryd.prog.underlying 50 = some (.struct #[A0, A1]) ∧ (A0.offset = 0 ∧ Tryd.prog.underlying A0.type = some (.int .i64) ∧ Tryd.prog.cellsOf A0.type = 1) ∧ (A1.offset = 1 ∧ Tryd.prog.underlying A1.type = some (.int .i64) ∧ Tryd.prog.cellsOf A1.type = 1) :=
    ⟨⟨ "Do", 3, 0, false, "", "", 0⟩, ⟨ "N", 3, 1, false, "", "", 8⟩, by kernel_rfl, ⟨rfl, by kernel_rfl, by kernel_rfl⟩, ⟨rfl, by kernel_rfl, by kernel_rfl⟩⟩
  obtain ⟨acts, hr2⟩ := acts_rep (hW := hT) (show Tryd.prog.underlying 45 = some (.slice 50) from by kernel_rfl) hsa (by kernel_rfl) j0 j1 (hval 2 45 v2 rfl rfl) h2
  refine (calls_of_aret (play_all bs hb l acts) W hT (vs := [v0, v1, v2]) ⟨_, _, rfl, hr0, _, _, rfl, hr1, _, _, rfl, hr2, rfl⟩).mono fun e W' ⟨he, hk⟩ => ?_
  subst he
  exact ⟨_, rfl, post_true hW' hk kids (by kernel_rfl) rfl (tb := 4) (by kernel_rfl) (by kernel_rfl) rfl rfl rfl⟩

theorem play_laid_met (os : Os) : laidMet Tryd.prog Rows.streamPlaysRow.laid ((laidWorld os).forCall (fun _ _ => 0) ⟨#[], #[.slice none 0 0, .slice none 0 0, .slice none 0 0], []⟩).memory :=
  laidMet_of_run' 8 (by kernel_rfl) (by kernel_rfl)
theorem play_reads (os : Os) {H : Type} (enc : TypeId × Value → H) : ∃ places, DataW.whole enc Tryd.prog ((laidWorld os).forCall (fun _ _ => 0) ⟨#[], #[.slice none 0 0, .slice none 0 0, .slice none 0 0], []⟩).memory Tryd.f4.params.toList Rows.streamPlaysSpec.vars false #[Value.slice none 0 0, .slice none 0 0, .slice none 0 0].toList 8 = some ([.nil, .nil, .nil], [], places) :=
  ⟨[], by kernel_rfl⟩

set_option maxRecDepth 100000 in
theorem play_lifted (os : Os) (started : os.Started) (H : Type) (enc : TypeId × Value → H) (F : Stop.Interp) :
    ReturnsInHanded {} Tryd.checked os 4 .any ((OpenSpec.ofChange Rows.streamPlaysSpec).preRow enc Tryd.prog Tryd.f4 Rows.streamPlaysRow.domain false Rows.streamPlaysRow.laid) (((OpenSpec.ofChange Rows.streamPlaysSpec).at F).post enc Tryd.prog Tryd.f4 false true false false) := by
  obtain ⟨places, hx⟩ := play_reads os enc
  refine returnsInHanded_of_row (C := Tryd.checked) (s := OpenSpec.ofChange Rows.streamPlaysSpec) own started (by kernel_rfl) Tryd.func4
    (witness_row_at (enc := enc) (C := Tryd.checked) false (laidWorld os) #[.slice none 0 0, .slice none 0 0, .slice none 0 0] rfl (by kernel_rfl) (by kernel_rfl) (by kernel_rfl)
      (OpenSpec.preRow_of_cond 8 hx (by kernel_rfl) (fun k hk => by cases hk) (by kernel_rfl) (play_laid_met os))) ?_
  intro W base args ds gs before hval hW _ _ _ hL _ _
  exact play_contract H enc W base args ds gs before hval hW (tabs_known hL)

theorem play_said : Rows.StreamPlaysSaid :=
  OpenClaim.holds_of_cond 4 Tryd.f4 rfl rfl rfl rfl rfl rfl rfl ⟨rfl, rfl, rfl, rfl, rfl⟩ rfl rfl rfl rfl rfl (by kernel_rfl) Tryd.func4 (by kernel_rfl)
    (of_decide_eq_true (by kernel_rfl)) (by unfold Func.isWrapper; first | (rw [if_pos (by decide +kernel)]; kernel_rfl) | (rw [if_neg (by decide +kernel)]; exact ⟨rfl, rfl⟩))
    (fun os started H enc _ F => by rw [OpenClaim.pre_eq_preRow]; exact play_lifted os started H enc F)

theorem play_plain (f : FuncId) (fn : Func) (hf : Tryd.pinned.checked.prog.funcNamed "pollard/pollardlaw18.StreamPlays" = some f) (hfn : Tryd.pinned.checked.prog.funcs[f]? = some fn) :
    false = Tryd.pinned.checked.prog.looks [] ∧ ∀ (j : Nat) t, fn.params[j]? = some t → Tryd.pinned.checked.prog.wantsStandIn t = false := by
  obtain rfl : f = 4 := Option.some.inj ((show Tryd.prog.funcNamed "pollard/pollardlaw18.StreamPlays" = some 4 by kernel_rfl).symm.trans hf) |>.symm
  obtain rfl : fn = Tryd.f4 := (Option.some.inj (Tryd.func4.symm.trans hfn)).symm
  refine ⟨by kernel_rfl, fun j t ht => ?_⟩
  rw [Tryd.params4] at ht
  have hm : t = 22 ∨ t = 23 ∨ t = 45 := by simpa using Array.mem_of_getElem? ht
  rcases hm with rfl | rfl | rfl
  · exact (show Tryd.prog.wantsStandIn 22 = false by kernel_rfl)
  · exact (show Tryd.prog.wantsStandIn 23 = false by kernel_rfl)
  · exact (show Tryd.prog.wantsStandIn 45 = false by kernel_rfl)

theorem streamPlays_card : Rows.StreamPlaysCardSaid :=
  Claim7.holds_tied_plain_at .later [] _ _ _ _ play_said (fun _ h => by cases h) (by kernel_rfl) (fun _ h => by cases h) streamPlays_row_tie rfl ⟨rfl, rfl⟩ (by kernel_rfl) rfl play_plain (by kernel_rfl)
end Go.Proofs.YtifnhnkogcgnaaaDoor
