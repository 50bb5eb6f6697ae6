/- stream.fair: whether tokens may stand over an input. -/
import Derived.Test.YtifnhnkogcgnaaaDoorE4
namespace Go.Proofs.YtifnhnkogcgnaaaDoor
open Go.Am
/-- a token -/
structure Tok where
  ty : Int
  ch : Int
  fr : Int
  to : Int
def tokRow (t : Tok) : List AV := [I t.ty, I t.ch, I t.fr, I t.to]
def toks (l : List Tok) : List (List AV) := l.map tokRow
theorem pure_toks : ∀ l : List Tok, pureRows (toks l) = true
  | [] => rfl
  | t :: l => by
    have := pure_toks l
    simp only [toks] at this
    simp [toks, tokRow, pureRows, pureVals, AV.pure, this]
theorem rows1_toks {l : List Tok} (h : l.length ≤ 100000) : Rows1 (toks l) := ⟨by
  unfold rowsOne toks
  rw [List.all_eq_true]
  intro r hr
  obtain ⟨b, _, rfl⟩ := List.mem_map.1 hr
  rfl, pure_toks l, by simp [toks]; exact h⟩
def PlacesArg (args : List AV) : Prop := ∃ bs : List Nat, (∀ b ∈ bs, b < 256) ∧ bs.length ≤ 100000 ∧ args = [.sl 1 (rowsB bs)]
def byteOf : List AV → Nat
  | [.v (.int .u8 z)] => z.toNat
  | _ => 0
def bytesIn : List AV → List Nat
  | [.sl 1 rows] => rows.map byteOf
  | _ => []
theorem bytesIn_rows (bs : List Nat) : bytesIn [.sl 1 (rowsB bs)] = bs := by
  simp only [bytesIn, rowsB, List.map_map]
  conv => rhs; rw [← List.map_id bs]
  apply List.map_congr_left
  intro b _
  simp [byteOf]
noncomputable def placesObs (args : List AV) (_ : Nat) : List Ob := [.mp (ks (bytesIn args).length (startsOf (bytesIn args))) (vs (bytesIn args).length (startsOf (bytesIn args)))]
theorem pure_vs (n : Nat) (l : List Nat) : pureVals (vs n l) = true := by
  have : ∀ l : List Nat, pureVals (l.map fun _ => tv) = true := fun l => by induction l with
    | nil => rfl
    | cons q qs ih => simp only [List.map_cons, pureVals, Bool.and_eq_true]; exact ⟨rfl, ih⟩
  exact this _
theorem places_known (args : List AV) (hp : PlacesArg args) : ∃ r0 obs0, ARet Tryd.prog 43 args [] [] r0 obs0 ∧ pureVals args = true ∧ ∀ N, r0.ren (fsel [] N) = (fun (_ : List AV) (N : Nat) => AV.mp N) args N ∧ obs0.map (Ob.ren (fsel [] N)) = placesObs args N := by
  obtain ⟨bs, h1, h2, rfl⟩ := hp
  exact ⟨_, _, places_ok bs h1 h2, pure_arg bs, fun N => ⟨by simp [AV.ren, fsel], by simp [Ob.ren, placesObs, bytesIn_rows, renVals_pure _ _ (pure_vs _ _)]⟩⟩
noncomputable def callR28 : CallF := knownP 43 PlacesArg (fun _ N => AV.mp N) placesObs base
theorem callR28_ok : CallOk Tryd.prog callR28 := knownP_ok places_known base_ok
noncomputable def hd28 : List Code := [sq1 (bodyOf 28), sq1 (sq2 (bodyOf 28)), sq1 (sq2 (sq2 (bodyOf 28)))]
noncomputable def h28 : Code := sq1 (sq1 (sq2 (sq2 (sq2 (bodyOf 28)))))
noncomputable def lp28 : Code := inn (sq2 (sq1 (sq2 (sq2 (sq2 (bodyOf 28))))))
noncomputable def tl28 : Code := sq2 (sq2 (sq2 (sq2 (bodyOf 28))))
def fairL (rows : List (List AV)) (e i : Int) : Am.Loc := [(5, .mp 0), (6, I e), (11, .sl 4 rows), (12, I rows.length), (13, I i)]
theorem fair_no0 (rows : List (List AV)) (e : Int) (z : Nat) (ty ch fr to : Int) (keys : List Value) (vals : List AV) : lastC Tryd.prog [.tmp 4] 0 (lastR Tryd.prog 65 callR28 noPu 3000 0 tl28 (runCode Tryd.prog 65 callR28 noPu 3000 lp28 (triM (fairL rows e z)) (triO [.mp keys vals]) 1 ⟨1, [.b true, .row [I ty, I ch, I fr, I to], .b true, .b true], []⟩)) = some (.v (.bool false), [], [decide (ty < 1), true && dec (rows[z]? = some [I ty, I ch, I fr, I to]), decide ((z : Int) < rows.length)]) := by kernel_rfl
theorem fair_no1 (rows : List (List AV)) (e : Int) (z : Nat) (ty ch fr to : Int) (keys : List Value) (vals : List AV) : lastC Tryd.prog [.tmp 4] 0 (lastR Tryd.prog 65 callR28 noPu 3000 0 tl28 (runCode Tryd.prog 65 callR28 noPu 3000 lp28 (triM (fairL rows e z)) (triO [.mp keys vals]) 1 ⟨1, [.b true, .row [I ty, I ch, I fr, I to], .b false, .b true, .b true], []⟩)) = some (.v (.bool false), [], [decide (ty > 200), !decide (ty < 1), true && dec (rows[z]? = some [I ty, I ch, I fr, I to]), decide ((z : Int) < rows.length)]) := by kernel_rfl
theorem fair_no2 (rows : List (List AV)) (e : Int) (z : Nat) (ty ch fr to : Int) (keys : List Value) (vals : List AV) : lastC Tryd.prog [.tmp 4] 0 (lastR Tryd.prog 65 callR28 noPu 3000 0 tl28 (runCode Tryd.prog 65 callR28 noPu 3000 lp28 (triM (fairL rows e z)) (triO [.mp keys vals]) 1 ⟨1, [.b true, .row [I ty, I ch, I fr, I to], .b false, .b false, .b true, .b true], []⟩)) = some (.v (.bool false), [], [decide (ch < 0), !decide (ty > 200), !decide (ty < 1), true && dec (rows[z]? = some [I ty, I ch, I fr, I to]), decide ((z : Int) < rows.length)]) := by kernel_rfl
theorem fair_no3 (rows : List (List AV)) (e : Int) (z : Nat) (ty ch fr to : Int) (keys : List Value) (vals : List AV) : lastC Tryd.prog [.tmp 4] 0 (lastR Tryd.prog 65 callR28 noPu 3000 0 tl28 (runCode Tryd.prog 65 callR28 noPu 3000 lp28 (triM (fairL rows e z)) (triO [.mp keys vals]) 1 ⟨1, [.b true, .row [I ty, I ch, I fr, I to], .b false, .b false, .b false, .b true, .b true], []⟩)) = some (.v (.bool false), [], [decide (ch ≥ 20), !decide (ch < 0), !decide (ty > 200), !decide (ty < 1), true && dec (rows[z]? = some [I ty, I ch, I fr, I to]), decide ((z : Int) < rows.length)]) := by kernel_rfl
theorem fair_no4 (rows : List (List AV)) (e : Int) (z : Nat) (ty ch fr to : Int) (keys : List Value) (vals : List AV) : lastC Tryd.prog [.tmp 4] 0 (lastR Tryd.prog 65 callR28 noPu 3000 0 tl28 (runCode Tryd.prog 65 callR28 noPu 3000 lp28 (triM (fairL rows e z)) (triO [.mp keys vals]) 1 ⟨1, [.b true, .row [I ty, I ch, I fr, I to], .b false, .b false, .b false, .b false, .b true, .b true], []⟩)) = some (.v (.bool false), [], [decide (fr < e), !decide (ch ≥ 20), !decide (ch < 0), !decide (ty > 200), !decide (ty < 1), true && dec (rows[z]? = some [I ty, I ch, I fr, I to]), decide ((z : Int) < rows.length)]) := by kernel_rfl
theorem fair_no5 (rows : List (List AV)) (e : Int) (z : Nat) (ty ch fr to : Int) (keys : List Value) (vals : List AV) : lastC Tryd.prog [.tmp 4] 0 (lastR Tryd.prog 65 callR28 noPu 3000 0 tl28 (runCode Tryd.prog 65 callR28 noPu 3000 lp28 (triM (fairL rows e z)) (triO [.mp keys vals]) 1 ⟨1, [.b true, .row [I ty, I ch, I fr, I to], .b false, .b false, .b false, .b false, .b false, .b true, .b true], []⟩)) = some (.v (.bool false), [], [decide (to ≤ fr), !decide (fr < e), !decide (ch ≥ 20), !decide (ch < 0), !decide (ty > 200), !decide (ty < 1), true && dec (rows[z]? = some [I ty, I ch, I fr, I to]), decide ((z : Int) < rows.length)]) := by kernel_rfl
theorem fair_no6 (rows : List (List AV)) (e : Int) (z : Nat) (ty ch fr to : Int) (keys : List Value) (vals : List AV) : lastC Tryd.prog [.tmp 4] 0 (lastR Tryd.prog 65 callR28 noPu 3000 0 tl28 (runCode Tryd.prog 65 callR28 noPu 3000 lp28 (triM (fairL rows e z)) (triO [.mp keys vals]) 1 ⟨1, [.b true, .row [I ty, I ch, I fr, I to], .b false, .b false, .b false, .b false, .b false, .b false, .key none (.v (.bool false)), .b true], []⟩)) = some (.v (.bool false), [], [dec (KeyP (.int .i64) (.int .i64 fr) keys none ∧ mgetA vals (ofV (Value.bool false)) none = some (.v (.bool false))), !decide (to ≤ fr), !decide (fr < e), !decide (ch ≥ 20), !decide (ch < 0), !decide (ty > 200), !decide (ty < 1), true && dec (rows[z]? = some [I ty, I ch, I fr, I to]), decide ((z : Int) < rows.length)]) := by kernel_rfl
theorem fair_no7 (rows : List (List AV)) (e : Int) (z : Nat) (ty ch fr to : Int) (keys : List Value) (vals : List AV) (i1 : Option Nat) : lastC Tryd.prog [.tmp 4] 0 (lastR Tryd.prog 65 callR28 noPu 3000 0 tl28 (runCode Tryd.prog 65 callR28 noPu 3000 lp28 (triM (fairL rows e z)) (triO [.mp keys vals]) 1 ⟨1, [.b true, .row [I ty, I ch, I fr, I to], .b false, .b false, .b false, .b false, .b false, .b false, .key i1 tv, .key none (.v (.bool false)), .b true], []⟩)) = some (.v (.bool false), [], [dec (KeyP (.int .i64) (.int .i64 to) keys none ∧ mgetA vals (ofV (Value.bool false)) none = some (.v (.bool false))), dec (KeyP (.int .i64) (.int .i64 fr) keys i1 ∧ mgetA vals (ofV (Value.bool false)) i1 = some tv), !decide (to ≤ fr), !decide (fr < e), !decide (ch ≥ 20), !decide (ch < 0), !decide (ty > 200), !decide (ty < 1), true && dec (rows[z]? = some [I ty, I ch, I fr, I to]), decide ((z : Int) < rows.length)]) := by kernel_rfl
theorem fair_step (rows : List (List AV)) (e : Int) (z : Nat) (ty ch fr to : Int) (keys : List Value) (vals : List AV) (i1 i2 : Option Nat) : outR [5, 6, 11, 12, 13] [0] (runCode Tryd.prog 65 callR28 noPu 3000 lp28 (triM (fairL rows e z)) (triO [.mp keys vals]) 1 ⟨1, [.b true, .row [I ty, I ch, I fr, I to], .b false, .b false, .b false, .b false, .b false, .b false, .key i1 tv, .key i2 tv, .int (z + 1 : Nat), .b true], []⟩) = some (.normal, [some (.mp 0), some (I to), some (.sl 4 rows), some (I rows.length), some (I (z + 1 : Nat))], [some (.mp keys vals)], 2, [dec (IntKind.i64.wrap ((z : Int) + 1) = (z + 1 : Nat)), dec (KeyP (.int .i64) (.int .i64 to) keys i2 ∧ mgetA vals (ofV (Value.bool false)) i2 = some tv), dec (KeyP (.int .i64) (.int .i64 fr) keys i1 ∧ mgetA vals (ofV (Value.bool false)) i1 = some tv), !decide (to ≤ fr), !decide (fr < e), !decide (ch ≥ 20), !decide (ch < 0), !decide (ty > 200), !decide (ty < 1), true && dec (rows[z]? = some [I ty, I ch, I fr, I to]), decide ((z : Int) < rows.length)]) := by kernel_rfl
theorem fair_last (rows : List (List AV)) (e : Int) (z : Nat) (keys : List Value) (vals : List AV) : lastC Tryd.prog [.tmp 4] 0 (lastR Tryd.prog 65 callR28 noPu 3000 0 tl28 (runCode Tryd.prog 65 callR28 noPu 3000 lp28 (triM (fairL rows e z)) (triO [.mp keys vals]) 1 ⟨1, [.b false, .b true], []⟩)) = some (.v (.bool true), [], [!decide ((z : Int) < rows.length)]) := by kernel_rfl
theorem fair_head (rows1 rows : List (List AV)) : outR [5, 6, 11, 12, 13] [0] (runL Tryd.prog 65 callR28 noPu 3000 (hd28 ++ [h28]) (argT 0 [.sl 1 rows1, .sl 4 rows] .e) .e 0 ⟨0, [.b true], []⟩) = some (.normal, [some (.mp 0), some (I 0), some (.sl 4 rows), some (I rows.length), some (I 0)], (placesObs [.sl 1 rows1] 0).map some, 1, [dec (PlacesArg [.sl 1 rows1])]) := by kernel_rfl

/-- does a unit begin there, or the input end? -/
noncomputable def okAt (bs : List Nat) (x : Int) : Prop := findI x (bs.length :: startsOf bs) ≠ none
/-- may a token stand behind such an end? -/
noncomputable def FairT (bs : List Nat) (e : Int) (t : Tok) : Prop := ¬ t.ty < 1 ∧ ¬ t.ty > 200 ∧ ¬ t.ch < 0 ∧ ¬ t.ch ≥ 20 ∧ ¬ t.fr < e ∧ ¬ t.to ≤ t.fr ∧ okAt bs t.fr ∧ okAt bs t.to
def FairF (bs : List Nat) : Int → List Tok → Prop
  | _, [] => True
  | e, t :: ts => FairT bs e t ∧ FairF bs t.to ts
theorem okAt_le {bs : List Nat} {x : Int} (h : okAt bs x) : 0 ≤ x ∧ x ≤ bs.length := by
  unfold okAt at h
  cases hf : findI x (bs.length :: startsOf bs) with
  | none => exact absurd hf h
  | some i =>
    obtain ⟨_, q, hq, rfl⟩ := findI_some hf
    rcases List.mem_cons.1 hq with rfl | hq
    · omega
    · have := starts_lt bs _ _ q hq
      omega
theorem mget_tv {n : Nat} {l : List Nat} {i : Option Nat} {x : Int} (h : findI x (n :: l) = i) (hi : i ≠ none) : mgetA (vs n l) (ofV (Value.bool false)) i = some tv := by
  cases i with
  | none => exact absurd rfl hi
  | some j =>
    have := (findI_some h).1
    show (vs n l)[j]? = some tv
    unfold vs
    rw [List.getElem?_map, List.getElem?_eq_getElem this]
    rfl
theorem fair_ok (bs : List Nat) (hb : ∀ b ∈ bs, b < 256) (hl : bs.length ≤ 100000) (l : List Tok) (hn : l.length ≤ 100000) (r : Bool) (hr : r = dec (FairF bs 0 l)) : ARet Tryd.prog 28 [.sl 1 (rowsB bs), .sl 4 (toks l)] [] [] (.v (.bool r)) [] := by
  have hlen : (toks l).length = l.length := by simp [toks]
  have hren : ∀ f e i, renL f (fairL (toks l) e i) = [some (.mp (f 0)), some (I e), some (.sl 4 (toks l)), some (I (toks l).length), some (I i)] := fun f e i => by simp [renL, fairL, AV.ren, renRows_pure _ _ (pure_toks l)]
  have hrenO : ∀ f, renO f [.mp (ks bs.length (startsOf bs)) (vs bs.length (startsOf bs))] = [some (.mp (ks bs.length (startsOf bs)) (vs bs.length (startsOf bs)))] := fun f => by simp [renO, Ob.ren, renVals_pure _ _ (pure_vs _ _)]
  refine aret_loop2 callR28_ok mixed (pu := noPu) (lf := 3000) (fn := Tryd.f28) (hs := hd28) (H := h28) (id := 0) (c := lp28) (B := tl28) rfl rfl rfl (Nat.le_of_ble_eq_true rfl) rfl rfl
    (ι := Nat × Int) (fun x => fairL (toks l) x.2 x.1) (fun _ => [.mp (ks bs.length (startsOf bs)) (vs bs.length (startsOf bs))])
    (fun x => x.1 ≤ l.length ∧ (FairF bs x.2 (l.drop x.1) ↔ FairF bs 0 l)) (fun x => l.length - x.1) (0, 0)
    ⟨by simp, by simp⟩ ?_ ?_
  · refine head_of (L' := fairL (toks l) 0 0) (fair_head (rowsB bs) (toks l)) (ac (dec_true.2 ⟨bs, hb, hl, rfl⟩) rfl) rfl (hren _ _ _) ?_
    rw [hrenO]
    simp [placesObs, bytesIn_rows]
  · rintro ⟨i, e⟩ ⟨h1, h2⟩
    simp only at h1 h2 ⊢
    by_cases hi : i < l.length
    · have hd := List.drop_eq_getElem_cons hi
      rw [hd] at h2
      simp only [FairF] at h2
      generalize ht : l[i] = t at h2
      have hrow : (toks l)[i]? = some [I t.ty, I t.ch, I t.fr, I t.to] := by
        unfold toks
        rw [List.getElem?_map, List.getElem?_eq_getElem hi, ht]
        rfl
      have p1 : decide ((i : Int) < (toks l).length) = true := decide_eq_true (by omega)
      have p2 : (true && dec ((toks l)[i]? = some [I t.ty, I t.ch, I t.fr, I t.to])) = true := by rw [Bool.true_and]; exact dec_true.2 hrow
      have hkey : ∀ x : Int, KeyP (.int .i64) (.int .i64 x) (ks bs.length (startsOf bs)) (findI x (bs.length :: startsOf bs)) := fun x => keyP x (bs.length :: startsOf bs)
      have no : ¬ FairT bs e t → r = false := fun hf => by
        rw [hr]
        cases hdec : dec (FairF bs 0 l) with
        | false => rfl
        | true => exact absurd (h2.2 (dec_true.1 hdec)).1 hf
      by_cases q0 : t.ty < 1
      · right; rw [no (fun hf => hf.1 q0)]; exact last_of (obs := []) (fair_no0 (toks l) e i t.ty t.ch t.fr t.to _ _) (ac (decide_eq_true q0) (ac p2 (ac p1 rfl))) rfl
      by_cases q1 : t.ty > 200
      · right; rw [no (fun hf => hf.2.1 q1)]; exact last_of (obs := []) (fair_no1 (toks l) e i t.ty t.ch t.fr t.to _ _) (ac (decide_eq_true q1) (ac (nd q0) (ac p2 (ac p1 rfl)))) rfl
      by_cases q2 : t.ch < 0
      · right; rw [no (fun hf => hf.2.2.1 q2)]; exact last_of (obs := []) (fair_no2 (toks l) e i t.ty t.ch t.fr t.to _ _) (ac (decide_eq_true q2) (ac (nd q1) (ac (nd q0) (ac p2 (ac p1 rfl))))) rfl
      by_cases q3 : t.ch ≥ 20
      · right; rw [no (fun hf => hf.2.2.2.1 q3)]; exact last_of (obs := []) (fair_no3 (toks l) e i t.ty t.ch t.fr t.to _ _) (ac (decide_eq_true q3) (ac (nd q2) (ac (nd q1) (ac (nd q0) (ac p2 (ac p1 rfl)))))) rfl
      by_cases q4 : t.fr < e
      · right; rw [no (fun hf => hf.2.2.2.2.1 q4)]; exact last_of (obs := []) (fair_no4 (toks l) e i t.ty t.ch t.fr t.to _ _) (ac (decide_eq_true q4) (ac (nd q3) (ac (nd q2) (ac (nd q1) (ac (nd q0) (ac p2 (ac p1 rfl))))))) rfl
      by_cases q5 : t.to ≤ t.fr
      · right; rw [no (fun hf => hf.2.2.2.2.2.1 q5)]; exact last_of (obs := []) (fair_no5 (toks l) e i t.ty t.ch t.fr t.to _ _) (ac (decide_eq_true q5) (ac (nd q4) (ac (nd q3) (ac (nd q2) (ac (nd q1) (ac (nd q0) (ac p2 (ac p1 rfl)))))))) rfl
      by_cases q6 : findI t.fr (bs.length :: startsOf bs) = none
      · right; rw [no (fun hf => hf.2.2.2.2.2.2.1 q6)]; exact last_of (obs := []) (fair_no6 (toks l) e i t.ty t.ch t.fr t.to _ _) (ac (dec_true.2 ⟨q6 ▸ hkey t.fr, rfl⟩) (ac (nd q5) (ac (nd q4) (ac (nd q3) (ac (nd q2) (ac (nd q1) (ac (nd q0) (ac p2 (ac p1 rfl))))))))) rfl
      by_cases q7 : findI t.to (bs.length :: startsOf bs) = none
      · right; rw [no (fun hf => hf.2.2.2.2.2.2.2 q7)]; exact last_of (obs := []) (fair_no7 (toks l) e i t.ty t.ch t.fr t.to _ _ _) (ac (dec_true.2 ⟨q7 ▸ hkey t.to, rfl⟩) (ac (dec_true.2 ⟨hkey t.fr, mget_tv rfl q6⟩) (ac (nd q5) (ac (nd q4) (ac (nd q3) (ac (nd q2) (ac (nd q1) (ac (nd q0) (ac p2 (ac p1 rfl)))))))))) rfl
      left
      refine ⟨(i + 1, t.to), ⟨by simp only; omega, ?_⟩, by simp only; omega, ?_⟩
      · rw [← h2]; exact ⟨fun h => ⟨⟨q0, q1, q2, q3, q4, q5, q6, q7⟩, h⟩, fun h => h.2⟩
      · exact step_of (L' := fairL (toks l) t.to (i + 1 : Nat)) (fair_step (toks l) e i t.ty t.ch t.fr t.to _ _ _ _) (ac (dec_true.2 ((wrap64 (by omega) (by omega)).trans (by omega))) (ac (dec_true.2 ⟨hkey t.to, mget_tv rfl q7⟩) (ac (dec_true.2 ⟨hkey t.fr, mget_tv rfl q6⟩) (ac (nd q5) (ac (nd q4) (ac (nd q3) (ac (nd q2) (ac (nd q1) (ac (nd q0) (ac p2 (ac p1 rfl))))))))))) rfl (hren _ _ _) (hrenO _)
    · right
      have hz : l.drop i = [] := List.drop_eq_nil_of_le (by omega)
      rw [hz] at h2
      have : r = true := by rw [hr]; exact dec_true.2 (h2.1 trivial)
      rw [this]
      exact last_of (obs := []) (fair_last (toks l) e i _ _) (ac (nd (by omega)) rfl) rfl

end Go.Proofs.YtifnhnkogcgnaaaDoor
