/- stream.places: the map of the places at which units begin. -/
import Derived.Test.YtifnhnkogcgnaaaDoorE3
namespace Go.Proofs.YtifnhnkogcgnaaaDoor
open Go.Am
noncomputable def callR43 : CallF := known1 50 (SizedP 50) (pairOf 50) base
theorem callR43_ok : CallOk Tryd.prog callR43 := known1_ok pair_ok base_ok
noncomputable def hd43 : List Code := [sq1 (bodyOf 43), sq1 (sq2 (bodyOf 43))]
noncomputable def h43 : Code := sq1 (sq1 (sq2 (sq2 (bodyOf 43))))
noncomputable def lp43 : Code := inn (sq2 (sq1 (sq2 (sq2 (bodyOf 43)))))
noncomputable def tl43 : Code := sq2 (sq2 (sq2 (bodyOf 43)))
def ks (n : Nat) (l : List Nat) : List Value := (n :: l).map fun (k : Nat) => Value.int .i64 k
def tv : AV := .v (.bool true)
def vs (n : Nat) (l : List Nat) : List AV := (n :: l).map fun _ => tv
def placesL (rows : List (List AV)) (a : Int) : Am.Loc := [(0, .sl 1 rows), (3, .mp 0), (4, I a)]

theorem places_head (rows : List (List AV)) : outR [0, 3, 4] [0] (runL Tryd.prog 27 callR43 noPu 3000 (hd43 ++ [h43]) (argT 0 [.sl 1 rows] .e) .e 0 ⟨0, [.key none (.v (.bool true)), .b true], []⟩) = some (.normal, [some (.sl 1 rows), some (.mp 0), some (I 0)], [some (.mp [Value.int .i64 rows.length] [tv])], 1,
    [dec (KeyP (.int .i64) (.int .i64 rows.length) [] none)]) := by kernel_rfl
theorem places_step (rows : List (List AV)) (a a' : Int) (keys : List Value) (vals : List AV) : outR [0, 3, 4] [0] (runCode Tryd.prog 27 callR43 noPu 3000 lp43 (triM (placesL rows a)) (triO [.mp keys vals]) 1 ⟨1, [.b true, .key none (.v (.bool true)), .int a', .b true], []⟩) = some (.normal, [some (.sl 1 rows), some (.mp 0), some (I a')], [some (.mp (keys ++ [Value.int .i64 a]) (vals ++ [tv]))], 1,
    [dec (IntKind.i64.wrap (a + ↑(sizeOf' 50 [.sl 1 rows, I a])) = a'), dec (SizedP 50 [.sl 1 rows, I a]), dec (KeyP (.int .i64) (.int .i64 a) keys none), decide (a < rows.length)]) := by kernel_rfl
theorem places_last (rows : List (List AV)) (a : Int) (keys : List Value) (vals : List AV) : lastC Tryd.prog [.tmp 2] 1 (lastR Tryd.prog 27 callR43 noPu 3000 0 tl43 (runCode Tryd.prog 27 callR43 noPu 3000 lp43 (triM (placesL rows a)) (triO [.mp keys vals]) 1 ⟨1, [.b false, .b true], []⟩)) = some (.mp 0, [some (.mp keys vals)], [!decide (a < rows.length)]) := by kernel_rfl

/-- where a number stands -/
def findI (a : Int) : List Nat → Option Nat
  | [] => none
  | q :: qs => if a = q then some 0 else (findI a qs).map (· + 1)
theorem same_int (a b : Int) : Instr.sameNow (.int .i64) (.int .i64 a) (.int .i64 b) = some (decide (a = b)) := rfl
theorem kfind_ints (a : Int) : ∀ l : List Nat, kfind (.int .i64) (.int .i64 a) (l.map fun (k : Nat) => Value.int .i64 k) = some (findI a l)
  | [] => rfl
  | q :: qs => by
    simp only [List.map_cons, kfind, same_int, findI]
    by_cases h : a = q
    · simp [h]
    · simp only [h, decide_false, if_false, kfind_ints a qs]
      cases findI a qs <;> rfl
theorem findI_none {a : Int} : ∀ {l : List Nat}, (∀ q ∈ l, a ≠ (q : Int)) → findI a l = none
  | [], _ => rfl
  | q :: qs, h => by
    simp only [findI, if_neg (h q (by simp)), findI_none (fun r hr => h r (List.mem_cons_of_mem _ hr))]
    rfl
theorem findI_some {a : Int} : ∀ {l : List Nat} {i : Nat}, findI a l = some i → i < l.length ∧ ∃ q ∈ l, a = (q : Int)
  | [], i, h => by cases h
  | q :: qs, i, h => by
    simp only [findI] at h
    by_cases he : a = q
    · rw [if_pos he] at h; cases h; exact ⟨by simp, q, by simp, he⟩
    · rw [if_neg he] at h
      cases hf : findI a qs with
      | none => rw [hf] at h; cases h
      | some j =>
        rw [hf] at h
        simp only [Option.map_some, Option.some.injEq] at h
        subst h
        obtain ⟨h1, r, h2, h3⟩ := findI_some hf
        exact ⟨by simp; exact h1, r, List.mem_cons_of_mem _ h2, h3⟩
theorem keyP (a : Int) (l : List Nat) : KeyP (.int .i64) (.int .i64 a) (l.map fun (k : Nat) => Value.int .i64 k) (findI a l) := by
  refine ⟨rfl, ?_, kfind_ints a l⟩
  rw [List.all_eq_true]
  intro v hv
  obtain ⟨k, _, rfl⟩ := List.mem_map.1 hv
  rfl
/-- the places at which units begin, from a place on -/
noncomputable def starts (bs : List Nat) : Nat → Nat → List Nat
  | 0, _ => []
  | k + 1, a => if a < bs.length then a :: starts bs k (a + sizeOf' 50 [.sl 1 (rowsB bs), I a]) else []
noncomputable def startsOf (bs : List Nat) : List Nat := starts bs bs.length 0
theorem starts_lt (bs : List Nat) : ∀ (k a : Nat), ∀ q ∈ starts bs k a, q < bs.length
  | 0, _, q, h => by simp [starts] at h
  | k + 1, a, q, h => by
    simp only [starts] at h
    by_cases ha : a < bs.length
    · rw [if_pos ha] at h
      rcases List.mem_cons.1 h with rfl | h
      · exact ha
      · exact starts_lt bs k _ q h
    · rw [if_neg ha] at h; cases h
theorem places_ok (bs : List Nat) (hb : ∀ b ∈ bs, b < 256) (hl : bs.length ≤ 100000) : ARet Tryd.prog 43 [.sl 1 (rowsB bs)] [] [] (.mp 0) [.mp (ks bs.length (startsOf bs)) (vs bs.length (startsOf bs))] := by
  have hlen : (rowsB bs).length = bs.length := by simp [rowsB]
  have hren : ∀ f a, renL f (placesL (rowsB bs) a) = [some (.sl 1 (rowsB bs)), some (.mp (f 0)), some (I a)] := fun f a => by simp [renL, placesL, AV.ren, renRows_pure _ _ (pure_bytes bs)]
  have hv : ∀ f n l, renVals f (vs n l) = vs n l := fun f n l => renVals_pure _ _ (by
    have : ∀ l : List Nat, pureVals (l.map fun _ => tv) = true := fun l => by induction l with
      | nil => rfl
      | cons q qs ih => simp only [List.map_cons, pureVals, Bool.and_eq_true]; exact ⟨rfl, ih⟩
    exact this _)
  have hrenO : ∀ f n l, renO f [.mp (ks n l) (vs n l)] = [some (.mp (ks n l) (vs n l))] := fun f n l => by simp [renO, Ob.ren, hv]
  have happ : ∀ n l (a : Nat), ks n (l ++ [a]) = ks n l ++ [Value.int .i64 a] ∧ vs n (l ++ [a]) = vs n l ++ [tv] := fun n l a => by simp [ks, vs]
  refine aret_loop2 callR43_ok mixed (pu := noPu) (lf := 3000) (fn := Tryd.f43) (hs := hd43) (H := h43) (id := 0) (c := lp43) (B := tl43) rfl rfl rfl (Nat.le_of_ble_eq_true rfl) rfl (by
      have : ∀ l : List Nat, undVals 1 (l.map fun _ => tv) = true := fun l => by induction l with
        | nil => rfl
        | cons q qs ih => simp only [List.map_cons, undVals, Bool.and_eq_true]; exact ⟨rfl, ih⟩
      simp only [List.all_cons, List.all_nil, Bool.and_true, Ob.und]
      exact this _)
    (ι := Nat × List Nat) (fun x => placesL (rowsB bs) x.1) (fun x => [.mp (ks bs.length x.2) (vs bs.length x.2)])
    (fun x => x.1 ≤ bs.length + 4 ∧ (∀ q ∈ x.2, q < x.1) ∧ ∃ k, bs.length ≤ x.1 + k ∧ x.2 ++ starts bs k x.1 = startsOf bs) (fun x => bs.length + 4 - x.1) (0, [])
    ⟨by simp, by simp, bs.length, by simp, rfl⟩ ?_ ?_
  · exact head_of (L' := placesL (rowsB bs) 0) (places_head (rowsB bs)) (ac (dec_true.2 (keyP _ [])) rfl) rfl (hren _ _) (by rw [hrenO]; simp [ks, vs, hlen])
  · rintro ⟨a, l⟩ ⟨h1, h2, k, h5, h6⟩
    simp only at h1 h2 h5 h6 ⊢
    by_cases ha : a < bs.length
    · left
      have hs : SizedP 50 [.sl 1 (rowsB bs), I a] := ⟨at_sized bs hb a (by omega), by
        have := pure_arg bs
        simp only [pureVals, Bool.and_eq_true] at this ⊢
        exact ⟨this.1, rfl, trivial⟩⟩
      obtain ⟨g1, g2, _⟩ := sized_spec hs.1
      obtain ⟨k, rfl⟩ : ∃ j, k = j + 1 := ⟨k - 1, by omega⟩
      simp only [starts, if_pos ha] at h6
      refine ⟨(a + sizeOf' 50 [.sl 1 (rowsB bs), I a], l ++ [a]), ⟨by simp only; omega, fun q hq => ?_, k, by simp only; omega, by rw [← h6]; simp⟩, by simp only; omega, ?_⟩
      · simp only at hq ⊢
        rcases List.mem_append.1 hq with hq | hq
        · have := h2 q hq; omega
        · have : q = a := by simpa using hq
          omega
      · have hk : KeyP (.int .i64) (.int .i64 a) (ks bs.length l) none := by
          have := keyP a (bs.length :: l)
          rwa [findI_none (fun q hq => by
            rcases List.mem_cons.1 hq with rfl | hq
            · omega
            · have := h2 q hq; omega)] at this
        refine step_of (L' := placesL (rowsB bs) (a + sizeOf' 50 [.sl 1 (rowsB bs), I a] : Nat)) (places_step (rowsB bs) a _ _ _) (ac (dec_true.2 ((wrap64 (by omega) (by omega)).trans (by omega))) (ac (dec_true.2 hs) (ac (dec_true.2 hk) (ac (decide_eq_true (by omega)) rfl)))) rfl (hren _ _) ?_
        rw [hrenO, (happ _ _ _).1, (happ _ _ _).2]
    · right
      have h7 : startsOf bs = l := by
        rw [← h6]
        cases k with
        | zero => simp [starts]
        | succ k => simp only [starts, if_neg ha, List.append_nil]
      rw [h7]
      exact last_of (places_last (rowsB bs) a _ _) (ac (nd (by omega)) rfl) rfl
end Go.Proofs.YtifnhnkogcgnaaaDoor
