/- Trees as the machine sees them; what a place is; what it is to change one. How many nodes there are: ref24.Count, tree.Count. A tree is the same as itself: ref00.SameTree. What stands at a place: tree.At. A place changed: tree.Put. slices.Clone on a row that lives; the walk over a tree. The law's frame: what stands in it when the range begins. -/
import Derived.Test.YtobehholoenaiaaGreatDoorW0
import Derived.Test.YtobehholoenaiaaGreatDoorAmSt
import Derived.Test.YtobehholoenaiaaGreatDoorAmEx
namespace Go.Proofs.YtobehholoenaiaaGreatDoor
open Go.Am
noncomputable def bodyOf (f : Nat) : Code := match Tryz.prog.funcs[f]? with
  | some fn => match fn.body with
    | some c => c
    | none => .skip
  | none => .skip
def sq1 : Code → Code
  | .seq a _ => a
  | c => c
def sq2 : Code → Code
  | .seq _ b => b
  | c => c
/-- what is looped in a block that is one loop -/
def inn : Code → Code
  | .block _ (.loop c) => c
  | c => c
abbrev I (z : Int) : AV := .v (.int .i64 z)
abbrev B (b : Bool) : AV := .v (.bool b)
def noPu : FuncId → Bool := fun _ => false
noncomputable def base : CallF := runFn Tryz.prog (fun _ => false) 3000 60
theorem base_ok : CallOk Tryz.prog base := runFn_ok mixed _ _ _
theorem ac {b : Bool} {l : List Bool} (h : b = true) (k : allT l = true) : allT (b :: l) = true := by simp only [allT, h, k, Bool.and_self]
theorem nle {a b : Nat} (h : a ≤ b) : Nat.ble a b = true := Nat.ble_eq_true_of_le h
theorem andt {a b : Bool} (h : a = true) (k : b = true) : (a && b) = true := by rw [h, k]; rfl
theorem wrap64 {z : Int} (h0 : -9223372036854775808 ≤ z) (h1 : z ≤ 9223372036854775807) : IntKind.i64.wrap z = z := wrap_i64 h0 h1

/-! ### Trees -/
inductive Tr where
  | mk (k r a tok ty : Int) (op : Bool) (kids : List Tr)
mutual
def cells : Tr → List AV
  | .mk k r a tok ty op kids => [.v (.int .i8 k), I r, I a, I tok, I ty, B op, .sl 7 (rowsT kids)]
def rowsT : List Tr → List (List AV)
  | [] => []
  | t :: ts => cells t :: rowsT ts
end
def tv (t : Tr) : AV := .ag (cells t)
theorem rowsT_map : ∀ l : List Tr, rowsT l = l.map cells
  | [] => by simp [rowsT]
  | t :: l => by simp [rowsT, rowsT_map l]
theorem rowsT_len (l : List Tr) : (rowsT l).length = l.length := by simp [rowsT_map]
theorem rowsT_get (l : List Tr) (i : Nat) : (rowsT l)[i]? = l[i]?.map cells := by simp [rowsT_map]
mutual
theorem cells_inj : ∀ {t u : Tr}, cells t = cells u → t = u
  | .mk k r a tok ty op kids, .mk k' r' a' tok' ty' op' kids', h => by
    simp only [cells, List.cons.injEq, AV.v.injEq, Value.int.injEq, Value.bool.injEq, AV.sl.injEq, true_and, and_true] at h
    obtain ⟨h1, h2, h3, h4, h5, h6, h7⟩ := h
    rw [h1, h2, h3, h4, h5, h6, rowsT_inj h7]
theorem rowsT_inj : ∀ {t u : List Tr}, rowsT t = rowsT u → t = u
  | [], [], _ => rfl
  | t :: l, u :: m, h => by
    simp only [rowsT, List.cons.injEq] at h
    rw [cells_inj h.1, rowsT_inj h.2]
  | [], _ :: _, h => by simp [rowsT] at h
  | _ :: _, [], h => by simp [rowsT] at h
end
theorem tv_inj {t u : Tr} (h : tv t = tv u) : t = u := cells_inj (by simpa [tv] using h)
mutual
theorem pure_cells : ∀ t : Tr, pureVals (cells t) = true
  | .mk k r a tok ty op kids => by simp [cells, pureVals, AV.pure, pure_rowsT kids]
theorem pure_rowsT : ∀ l : List Tr, pureRows (rowsT l) = true
  | [] => by simp [rowsT, pureRows]
  | t :: l => by simp [rowsT, pureRows, pure_cells t, pure_rowsT l]
end
theorem pure_tv (t : Tr) : (tv t).pure = true := by simp [tv, AV.pure, pure_cells]
def Tr.kids : Tr → List Tr
  | .mk _ _ _ _ _ _ l => l
def Tr.withKids : Tr → List Tr → Tr
  | .mk k r a tok ty op _, l => .mk k r a tok ty op l
mutual
def size : Tr → Nat
  | .mk _ _ _ _ _ _ l => sizes l + 1
def sizes : List Tr → Nat
  | [] => 0
  | t :: l => size t + sizes l
end
mutual
/-- no list of kids is longer than a slice may be -/
def Fit : Tr → Prop
  | .mk _ _ _ _ _ _ l => l.length ≤ 9223372036854775807 ∧ Fits l
def Fits : List Tr → Prop
  | [] => True
  | t :: l => Fit t ∧ Fits l
end
theorem fits_mem : ∀ {l : List Tr}, Fits l → ∀ u ∈ l, Fit u
  | [], _, u, hu => by simp at hu
  | t :: l, h, u, hu => by
    simp only [Fits] at h
    rcases List.mem_cons.1 hu with rfl | hu
    · exact h.1
    · exact fits_mem h.2 u hu
/-- the tree that a value tells -/
noncomputable def unT (x : AV) : Tr := open Classical in if h : ∃ t, x = tv t then h.choose else .mk 0 0 0 0 0 false []
theorem unT_tv (t : Tr) : unT (tv t) = t := by
  have h : ∃ u, tv t = tv u := ⟨t, rfl⟩
  unfold unT
  rw [dif_pos h]
  exact (tv_inj h.choose_spec).symm
def rowsI (p : List Nat) : List (List AV) := p.map fun (i : Nat) => [I i]
/-- what stands at a place -/
def atF : Tr → List Nat → Option Tr
  | t, [] => some t
  | t, i :: p => match t.kids[i]? with
    | some k => atF k p
    | none => none
/-- a place changed -/
def putF : Tr → List Nat → Tr → Tr
  | _, [], x => x
  | t, i :: p, x => match t.kids[i]? with
    | some k => t.withKids (t.kids.set i (putF k p x))
    | none => t
/-- trees by their kids -/
theorem Tr.ind {C : Tr → Prop} (h : ∀ k r a tok ty op l, (∀ u ∈ l, C u) → C (.mk k r a tok ty op l)) : ∀ t, C t := by
  have key : ∀ n, ∀ t, size t ≤ n → C t := by
    intro n
    induction n with
    | zero =>
      intro t ht
      cases t
      simp [size] at ht
    | succ n ih =>
      rintro ⟨k, r, a, tok, ty, op, l⟩ ht
      refine h _ _ _ _ _ _ _ fun u hu => ih u ?_
      have : ∀ l : List Tr, u ∈ l → size u ≤ sizes l := by
        intro l
        induction l with
        | nil => simp
        | cons a l ih2 =>
          intro hm
          simp only [sizes]
          rcases List.mem_cons.1 hm with rfl | hm
          · omega
          · have := ih2 hm; omega
      have h2 := this l hu
      simp only [size] at ht
      omega
  exact fun t => key _ t (Nat.le_refl _)
theorem sizes_take : ∀ (l : List Tr) (z : Nat) (u : Tr), l[z]? = some u → sizes (l.take (z + 1)) = sizes (l.take z) + size u
  | [], z, u, h => by simp at h
  | t :: l, 0, u, h => by simp at h; subst h; simp [sizes]
  | t :: l, z + 1, u, h => by
    have := sizes_take l z u (by simpa using h)
    simp only [List.take_succ_cons, sizes, this]
    omega
theorem minP {P : Program} {ts : Array TypeId} {ty : TypeId} {fl : Array Bool} {a b c : Int} (h : c = min a b) : CallP P .min ts ty fl [.int .i64 a, .int .i64 b] (.int .i64 c) := by
  subst h
  have e : (if b < a then b else a) = min a b := by omega
  unfold CallP
  simp only [invoke, builtin, Builtin.min_, Builtin.min2, List.foldlM, e]
  rfl
end Go.Proofs.YtobehholoenaiaaGreatDoor
namespace Go.Proofs.YtobehholoenaiaaGreatDoor
open Go.Am
def cntN (t : Tr) : Int := (min (size t) 2147483647 : Nat)
noncomputable def cntR : List AV → AV
  | [x] => I (cntN (unT x))
  | _ => .any
def KidArg (l : List Tr) (args : List AV) : Prop := ∃ t ∈ l, args = [tv t]
noncomputable def callC (f : FuncId) (l : List Tr) : CallF := known1 f (KidArg l) cntR base
noncomputable def hd13 : List Code := [sq1 (bodyOf 13), sq1 (sq2 (bodyOf 13))]
noncomputable def h13 : Code := sq1 (sq1 (sq2 (sq2 (bodyOf 13))))
noncomputable def lp13 : Code := inn (sq2 (sq1 (sq2 (sq2 (bodyOf 13)))))
noncomputable def tl13 : Code := sq2 (sq2 (sq2 (bodyOf 13)))
noncomputable def hd12 : List Code := [sq1 (bodyOf 12), sq1 (sq2 (bodyOf 12))]
noncomputable def h12 : Code := sq1 (sq1 (sq2 (sq2 (bodyOf 12))))
noncomputable def lp12 : Code := inn (sq2 (sq1 (sq2 (sq2 (bodyOf 12)))))
noncomputable def tl12 : Code := sq2 (sq2 (sq2 (bodyOf 12)))
def cl13 (n i : Int) : Am.Loc := [(1, .pt 0 0), (3, I n), (4, I i)]
def cl12 (l : List Tr) (n i : Int) : Am.Loc := [(3, I n), (7, .sl 7 (rowsT l)), (8, I l.length), (9, I i)]

abbrev uu (k r a tok ty : Int) (op : Bool) (ks : List Tr) : Tr := .mk k r a tok ty op ks
theorem step13 (l : List Tr) (_bx : List AV) (n m m2 z : Nat) (k r a tok ty : Int) (op : Bool) (ks : List Tr) (b0 b1 b2 b3 b4 b5 : AV) : outR [1, 3, 4] [0] (runCode Tryz.prog 22 (callC 13 l) noPu 3000 lp13 (triM (cl13 n z)) (triO [.box 25 [b0, b1, b2, b3, b4, b5, .sl 7 (rowsT l)]]) 1 ⟨1, [.b true, .row (cells (uu k r a tok ty op ks)), .int m, .val (.int .i64 m2), .int (z+1 : Nat), .b true], []⟩) =
    some (.normal, [some (.pt 0 0), some (I m2), some (I (z + 1 : Nat))], [some (.box 25 [b0, b1, b2, b3, b4, b5, .sl 7 (rowsT l)])], 1,
    [dec (IntKind.i64.wrap ((z : Int) + 1) = (z + 1 : Nat)), dec (CallP Tryz.prog .min #[3, 3] 3 #[false, true] [.int .i64 m, .int .i64 2147483647] (.int .i64 m2)), dec (IntKind.i64.wrap ((n : Int) + cntN (unT (tv (uu k r a tok ty op ks)))) = m), true,
     dec (KidArg l [tv (uu k r a tok ty op ks)]), pureVals [tv (uu k r a tok ty op ks)] && true && true, true && dec ((rowsT l)[z]? = some (cells (uu k r a tok ty op ks))), decide ((z : Int) < (rowsT l).length)]) := by kernel_rfl
theorem last13 (l : List Tr) (n z : Nat) (b0 b1 b2 b3 b4 b5 : AV) : lastC Tryz.prog [.tmp 2] 0 (lastR Tryz.prog 22 (callC 13 l) noPu 3000 0 tl13 (runCode Tryz.prog 22 (callC 13 l) noPu 3000 lp13 (triM (cl13 n z)) (triO [.box 25 [b0, b1, b2, b3, b4, b5, .sl 7 (rowsT l)]]) 1 ⟨1, [.b false, .b true], []⟩)) =
    some (I n, [], [!decide ((z : Int) < (rowsT l).length)]) := by kernel_rfl
theorem head13 (k r a tok ty : Int) (op : Bool) (l : List Tr) : outR [1, 3, 4] [0] (runL Tryz.prog 22 (callC 13 l) noPu 3000 (hd13 ++ [h13]) (argT 0 [tv (uu k r a tok ty op l)] .e) .e 0 ⟨0, [.b true], []⟩) =
    some (.normal, [some (.pt 0 0), some (I 1), some (I 0)], [some (.box 25 (cells (uu k r a tok ty op l)))], 1, []) := by kernel_rfl
theorem step12 (l : List Tr) (n m m2 z : Nat) (k r a tok ty : Int) (op : Bool) (ks : List Tr) : outR [3, 7, 8, 9] [] (runCode Tryz.prog 20 (callC 12 l) noPu 3000 lp12 (triM (cl12 l n z)) (triO []) 0 ⟨0, [.b true, .row (cells (uu k r a tok ty op ks)), .int m, .val (.int .i64 m2), .int (z+1 : Nat), .b true], []⟩) =
    some (.normal, [some (I m2), some (.sl 7 (rowsT l)), some (I l.length), some (I (z + 1 : Nat))], [], 1,
    [dec (IntKind.i64.wrap ((z : Int) + 1) = (z + 1 : Nat)), dec (CallP Tryz.prog .min #[3, 3] 3 #[false, true] [.int .i64 m, .int .i64 2147483647] (.int .i64 m2)), dec (IntKind.i64.wrap ((n : Int) + cntN (unT (tv (uu k r a tok ty op ks)))) = m), true,
     dec (KidArg l [tv (uu k r a tok ty op ks)]), pureVals [tv (uu k r a tok ty op ks)] && true && true, true && dec ((rowsT l)[z]? = some (cells (uu k r a tok ty op ks))), decide ((z : Int) < l.length)]) := by kernel_rfl
theorem last12 (l : List Tr) (n z : Nat) : lastC Tryz.prog [.tmp 2] 0 (lastR Tryz.prog 20 (callC 12 l) noPu 3000 0 tl12 (runCode Tryz.prog 20 (callC 12 l) noPu 3000 lp12 (triM (cl12 l n z)) (triO []) 0 ⟨0, [.b false, .b true], []⟩)) =
    some (I n, [], [!decide ((z : Int) < l.length)]) := by kernel_rfl
theorem head12 (k r a tok ty : Int) (op : Bool) (l : List Tr) : outR [3, 7, 8, 9] [] (runL Tryz.prog 20 (callC 12 l) noPu 3000 (hd12 ++ [h12]) (argT 0 [tv (uu k r a tok ty op l)] .e) .e 0 ⟨0, [.b true], []⟩) =
    some (.normal, [some (I 1), some (.sl 7 (rowsT l)), some (I (rowsT l).length), some (I 0)], [], 1, []) := by kernel_rfl

def cn (l : List Tr) (z : Nat) : Nat := min (sizes (l.take z) + 1) 2147483647
theorem cnt_known {f : FuncId} {l : List Tr} (h : ∀ u ∈ l, ARet Tryz.prog f [tv u] [] [] (I (cntN u)) []) (args : List AV) (hp : KidArg l args) : ARet Tryz.prog f args [] [] (cntR args) [] ∧ pureVals args = true ∧ (cntR args).pure = true := by
  obtain ⟨u, hu, rfl⟩ := hp
  exact ⟨by simp only [cntR, unT_tv]; exact h u hu, by simp [pureVals, pure_tv], rfl⟩
theorem pure3 (t : Tr) : (pureVals [tv t] && true && true) = true := by simp [pureVals, pure_tv]
theorem f13 : Tryz.prog.funcs[13]? = some Tryz.f13 := by kernel_rfl
theorem n13 : (Tryz.f13.name == "runtime.NumGoroutine") = false := by kernel_rfl
theorem b13 : Tryz.f13.body = some (seqs hd13 (.seq (.seq h13 (.block 0 (.loop lp13))) tl13)) := by kernel_rfl
theorem f12 : Tryz.prog.funcs[12]? = some Tryz.f12 := by kernel_rfl
theorem n12 : (Tryz.f12.name == "runtime.NumGoroutine") = false := by kernel_rfl
theorem b12 : Tryz.f12.body = some (seqs hd12 (.seq (.seq h12 (.block 0 (.loop lp12))) tl12)) := by kernel_rfl
theorem renO_box (f : Nat → Nat) (t : Tr) : renO f [.box 25 (cells t)] = [some (.box 25 (cells t))] := by simp [renO, Ob.ren, renVals_pure _ _ (pure_cells _)]
theorem nlt {z n : Nat} (h : n ≤ z) : (!decide ((z : Int) < n)) = true := by simp; omega
theorem ylt {z n : Nat} (h : z < n) : decide ((z : Int) < n) = true := by simp; omega
theorem dinc {z n : Nat} (h : z < n) (hn : n ≤ 9223372036854775807) : dec (IntKind.i64.wrap ((z : Int) + 1) = (z + 1 : Nat)) = true := dec_true.2 ((wrap64 (by omega) (by omega)).trans (by omega))
theorem cn_le (l : List Tr) (z : Nat) : cn l z ≤ 2147483647 := Nat.min_le_right _ _
theorem d_add {l : List Tr} {z : Nat} {u : Tr} : dec (IntKind.i64.wrap ((cn l z : Int) + cntN (unT (tv u))) = (cn l z + min (size u) 2147483647 : Nat)) = true := by
  have h1 := cn_le l z
  have h2 : min (size u) 2147483647 ≤ 2147483647 := Nat.min_le_right _ _
  refine dec_true.2 ?_
  rw [unT_tv, cntN]
  exact (wrap64 (by omega) (by omega)).trans (by omega)
theorem d_min {l : List Tr} {z : Nat} {u : Tr} (h : l[z]? = some u) : dec (CallP Tryz.prog .min #[3, 3] 3 #[false, true] [.int .i64 (cn l z + min (size u) 2147483647 : Nat), .int .i64 2147483647] (.int .i64 (cn l (z + 1)))) = true := by
  refine dec_true.2 (minP ?_)
  have := sizes_take l z u h
  unfold cn
  rw [this]
  omega
theorem d_row {l : List Tr} {z : Nat} {u : Tr} (h : l[z]? = some u) : (true && dec ((rowsT l)[z]? = some (cells u))) = true := by
  rw [Bool.true_and]
  exact dec_true.2 (by rw [rowsT_get, h]; rfl)
theorem cn_end (l : List Tr) : cn l l.length = min (sizes l + 1) 2147483647 := by unfold cn; rw [List.take_length]
theorem count13 : ∀ t : Tr, Fit t → ARet Tryz.prog 13 [tv t] [] [] (I (cntN t)) [] := Tr.ind fun k r a tok ty op l ih hf => by
  simp only [Fit] at hf
  refine aret_loop2 (known1_ok (cnt_known fun u hu => ih u hu (fits_mem hf.2 u hu)) base_ok) mixed (callf := callC 13 l) (pu := noPu) (lf := 3000) (fn := Tryz.f13) (hs := hd13) (H := h13) (id := 0) (c := lp13) (B := tl13) f13 n13 b13 (Nat.le_of_ble_eq_true rfl) rfl rfl
    (ι := Nat) (fun z => cl13 (cn l z) z) (fun _ => [.box 25 (cells (uu k r a tok ty op l))]) (fun z => z ≤ l.length) (fun z => l.length - z) 0 (Nat.zero_le _) ?_ ?_
  · exact head_of (L' := cl13 (cn l 0) (0 : Nat)) (head13 k r a tok ty op l) rfl rfl (by simp [renL, cl13, AV.ren, fsel, cn, sizes]) (renO_box _ _)
  · intro z hz
    by_cases hl : z < l.length
    · left
      obtain ⟨⟨k', r', a', tok', ty', op', ks⟩, hu⟩ : ∃ u, l[z]? = some u := ⟨_, List.getElem?_eq_getElem hl⟩
      refine ⟨z + 1, hl, by omega, ?_⟩
      refine step_of (L' := cl13 (cn l (z + 1)) (z + 1 : Nat)) (step13 l [] (cn l z) (cn l z + min (size (uu k' r' a' tok' ty' op' ks)) 2147483647) (cn l (z + 1)) z k' r' a' tok' ty' op' ks _ _ _ _ _ _) ?_ rfl (by simp [renL, cl13, AV.ren, fsel]) (renO_box _ _)
      exact ac (dinc hl hf.1) (ac (d_min hu) (ac d_add (ac rfl (ac (dec_true.2 ⟨_, List.mem_of_getElem? hu, rfl⟩) (ac (pure3 _) (ac (d_row hu) (ac (ylt (by rw [rowsT_len]; exact hl)) rfl)))))))
    · right
      have hz' : z = l.length := by omega
      subst hz'
      have := last13 l (cn l l.length) l.length (.v (.int .i8 k)) (I r) (I a) (I tok) (I ty) (B op)
      exact last_of (obs := []) (r := I (cntN (uu k r a tok ty op l))) (by rw [show cntN (uu k r a tok ty op l) = ((cn l l.length : Nat) : Int) from by rw [cn_end]; rfl]; exact this) (ac (nlt (by rw [rowsT_len]; exact Nat.le_refl _)) rfl) rfl
theorem count12 : ∀ t : Tr, Fit t → ARet Tryz.prog 12 [tv t] [] [] (I (cntN t)) [] := Tr.ind fun k r a tok ty op l ih hf => by
  simp only [Fit] at hf
  have hren : ∀ (f : Nat → Nat) (z : Nat), renL f (cl12 l (cn l z) z) = [some (I (cn l z)), some (.sl 7 (rowsT l)), some (I l.length), some (I z)] := fun f z => by simp [renL, cl12, AV.ren, renRows_pure _ _ (pure_rowsT l)]
  refine aret_loop2 (known1_ok (cnt_known fun u hu => ih u hu (fits_mem hf.2 u hu)) base_ok) mixed (callf := callC 12 l) (pu := noPu) (lf := 3000) (fn := Tryz.f12) (hs := hd12) (H := h12) (id := 0) (c := lp12) (B := tl12) f12 n12 b12 (Nat.le_of_ble_eq_true rfl) rfl rfl
    (ι := Nat) (fun z => cl12 l (cn l z) z) (fun _ => []) (fun z => z ≤ l.length) (fun z => l.length - z) 0 (Nat.zero_le _) ?_ ?_
  · have := head12 k r a tok ty op l
    rw [rowsT_len] at this
    exact head_of (L' := cl12 l (cn l 0) (0 : Nat)) this rfl rfl (by rw [hren]; simp [cn, sizes]) rfl
  · intro z hz
    by_cases hl : z < l.length
    · left
      obtain ⟨⟨k', r', a', tok', ty', op', ks⟩, hu⟩ : ∃ u, l[z]? = some u := ⟨_, List.getElem?_eq_getElem hl⟩
      refine ⟨z + 1, hl, by omega, ?_⟩
      refine step_of (L' := cl12 l (cn l (z + 1)) (z + 1 : Nat)) (step12 l (cn l z) (cn l z + min (size (uu k' r' a' tok' ty' op' ks)) 2147483647) (cn l (z + 1)) z k' r' a' tok' ty' op' ks) ?_ rfl (hren _ _) rfl
      exact ac (dinc hl hf.1) (ac (d_min hu) (ac d_add (ac rfl (ac (dec_true.2 ⟨_, List.mem_of_getElem? hu, rfl⟩) (ac (pure3 _) (ac (d_row hu) (ac (ylt hl) rfl)))))))
    · right
      have hz' : z = l.length := by omega
      subst hz'
      have := last12 l (cn l l.length) l.length
      exact last_of (obs := []) (r := I (cntN (uu k r a tok ty op l))) (by rw [show cntN (uu k r a tok ty op l) = ((cn l l.length : Nat) : Int) from by rw [cn_end]; rfl]; exact this) (ac (nlt (Nat.le_refl _)) rfl) rfl
end Go.Proofs.YtobehholoenaiaaGreatDoor
namespace Go.Proofs.YtobehholoenaiaaGreatDoor
open Go.Am
def bt (_ : List AV) : AV := .v (.bool true)
def SameArg (l : List Tr) (args : List AV) : Prop := ∃ t ∈ l, args = [tv t, tv t]
noncomputable def callS (l : List Tr) : CallF := known1 11 (SameArg l) bt base
noncomputable def b11 : Nat → Code
  | 0 => bodyOf 11
  | k + 1 => sq2 (b11 k)
noncomputable def hd11 : List Code := [sq1 (b11 0), sq1 (b11 1), sq1 (b11 2), sq1 (b11 3)]
noncomputable def h11 : Code := sq1 (sq1 (b11 4))
noncomputable def lp11 : Code := inn (sq2 (sq1 (b11 4)))
noncomputable def tl11 : Code := sq2 (b11 4)
def same11L (i : Int) : Am.Loc := [(2, .pt 0 0), (3, .pt 1 0), (5, I i)]
def nodeB (k : Int) : Bool := k == 0 || k == 1
noncomputable def callS2 (k : Int) (b : Bool) (l : List Tr) : CallF := known1 24 (fun args => args = [.v (.int .i8 k)]) (fun _ => B b) (callS l)
theorem node_t0 (k : Int) : outC (base 24 [.v (.int .i8 k)] .e 0 ⟨0, [.b true, .b true], []⟩) = some (B true, [], [k == 0]) := by kernel_rfl
theorem node_t1 (k : Int) : outC (base 24 [.v (.int .i8 k)] .e 0 ⟨0, [.b false, .b true, .b true], []⟩) = some (B true, [], [k == 1, !(k == 0)]) := by kernel_rfl
theorem node_f (k : Int) : outC (base 24 [.v (.int .i8 k)] .e 0 ⟨0, [.b false, .b false, .b true], []⟩) = some (B false, [], [!(k == 1), !(k == 0)]) := by kernel_rfl
theorem node24 (k : Int) : ARet Tryz.prog 24 [.v (.int .i8 k)] [] [] (B (nodeB k)) [] := by
  unfold nodeB
  cases h0 : k == 0 with
  | true => exact aret_of_run (obs := []) base_ok (node_t0 k) (ac h0 rfl)
  | false =>
    cases h1 : k == 1 with
    | true => exact aret_of_run (obs := []) base_ok (node_t1 k) (ac h1 (ac (by rw [h0]; rfl) rfl))
    | false => exact aret_of_run (obs := []) base_ok (node_f k) (ac (by rw [h1]; rfl) (ac (by rw [h0]; rfl) rfl))
theorem head11 (k r a tok ty : Int) (op : Bool) (l : List Tr) : outR [2, 3, 5] [0, 1] (runL Tryz.prog 76 (callS2 k true l) noPu 3000 (hd11 ++ [h11]) (argT 0 [tv (uu k r a tok ty op l), tv (uu k r a tok ty op l)] .e) .e 0 ⟨0, [.b false, .b false, .b false, .b false, .b false, .b false, .b false, .b true], []⟩) =
    some (.normal, [some (.pt 0 0), some (.pt 1 0), some (I 0)], [some (.box 25 (cells (uu k r a tok ty op l))), some (.box 25 (cells (uu k r a tok ty op l)))], 2,
    [!(((rowsT l).length : Int) != (rowsT l).length), true, dec ([AV.v (.int .i8 k)] = [.v (.int .i8 k)]), true, !(!(op == op)), !(ty != ty), !(tok != tok), !(a != a), !(r != r), !(k != k)]) := by kernel_rfl
theorem leaf11 (k r a tok ty : Int) (op : Bool) (l : List Tr) : outC (runOne Tryz.prog noPu 3000 (callS2 k false l) 11 [tv (uu k r a tok ty op l), tv (uu k r a tok ty op l)] .e 0 ⟨0, [.b false, .b false, .b false, .b false, .b false, .b false, .b true], []⟩) =
    some (B true, [.box 25 (cells (uu k r a tok ty op l)), .box 25 (cells (uu k r a tok ty op l))].map some, [true, dec ([AV.v (.int .i8 k)] = [.v (.int .i8 k)]), true, !(!(op == op)), !(ty != ty), !(tok != tok), !(a != a), !(r != r), !(k != k)]) := by kernel_rfl
theorem step11 (k' : Int) (l : List Tr) (k r a tok ty : Int) (op : Bool) (ks : List Tr) (b0 b1 b2 b3 b4 b5 : AV) (z : Nat) : outR [2, 3, 5] [0, 1] (runCode Tryz.prog 76 (callS2 k' true l) noPu 3000 lp11 (triM (same11L z)) (triO [.box 25 [b0, b1, b2, b3, b4, b5, .sl 7 (rowsT l)], .box 25 [b0, b1, b2, b3, b4, b5, .sl 7 (rowsT l)]]) 2 ⟨2, [.b true, .row (cells (uu k r a tok ty op ks)), .row (cells (uu k r a tok ty op ks)), .int (z + 1 : Nat), .b true], []⟩) =
    some (.normal, [some (.pt 0 0), some (.pt 1 0), some (I (z + 1 : Nat))], [some (.box 25 [b0, b1, b2, b3, b4, b5, .sl 7 (rowsT l)]), some (.box 25 [b0, b1, b2, b3, b4, b5, .sl 7 (rowsT l)])], 2,
    [dec (IntKind.i64.wrap ((z : Int) + 1) = (z + 1 : Nat)), true, dec (SameArg l [tv (uu k r a tok ty op ks), tv (uu k r a tok ty op ks)]), pureVals [tv (uu k r a tok ty op ks), tv (uu k r a tok ty op ks)] && true && true, true && dec ((rowsT l)[z]? = some (cells (uu k r a tok ty op ks))), true && dec ((rowsT l)[z]? = some (cells (uu k r a tok ty op ks))), decide ((z : Int) < (rowsT l).length)]) := by kernel_rfl
theorem last11 (k' : Int) (l : List Tr) (b0 b1 b2 b3 b4 b5 : AV) (z : Nat) : lastC Tryz.prog [.tmp 4] 0 (lastR Tryz.prog 76 (callS2 k' true l) noPu 3000 0 tl11 (runCode Tryz.prog 76 (callS2 k' true l) noPu 3000 lp11 (triM (same11L z)) (triO [.box 25 [b0, b1, b2, b3, b4, b5, .sl 7 (rowsT l)], .box 25 [b0, b1, b2, b3, b4, b5, .sl 7 (rowsT l)]]) 2 ⟨2, [.b false, .b true], []⟩)) =
    some (B true, [], [!decide ((z : Int) < (rowsT l).length)]) := by kernel_rfl
theorem f11 : Tryz.prog.funcs[11]? = some Tryz.f11 := by kernel_rfl
theorem n11 : (Tryz.f11.name == "runtime.NumGoroutine") = false := by kernel_rfl
theorem bd11 : Tryz.f11.body = some (seqs hd11 (.seq (.seq h11 (.block 0 (.loop lp11))) tl11)) := by kernel_rfl
theorem b_nne {α : Type} [BEq α] [LawfulBEq α] (x : α) : (!(x != x)) = true := by simp
theorem same_known {k : Int} {b : Bool} {l : List Tr} (hb : nodeB k = b) (h : ∀ u ∈ l, ARet Tryz.prog 11 [tv u, tv u] [] [] (B true) []) : CallOk Tryz.prog (callS2 k b l) :=
  known1_ok (fun args e => by subst e; subst hb; exact ⟨node24 k, rfl, rfl⟩) (known1_ok (fun args e => by
    obtain ⟨u, hu, rfl⟩ := e
    exact ⟨h u hu, by simp [pureVals, pure_tv], rfl⟩) base_ok)
theorem renO_box2 (f : Nat → Nat) (t u : Tr) : renO f [.box 25 (cells t), .box 25 (cells u)] = [some (.box 25 (cells t)), some (.box 25 (cells u))] := by simp [renO, Ob.ren, renVals_pure _ _ (pure_cells _)]
theorem same11 : ∀ t : Tr, Fit t → ARet Tryz.prog 11 [tv t, tv t] [] [] (B true) [] := Tr.ind fun k r a tok ty op l ih hf => by
  simp only [Fit] at hf
  have hk : ∀ b, nodeB k = b → CallOk Tryz.prog (callS2 k b l) := fun b hb => same_known hb fun u hu => ih u hu (fits_mem hf.2 u hu)
  cases hb : nodeB k with
  | false =>
    refine aret_fin (aret_of_run (runOne_ok (hk _ hb) mixed _ _) (leaf11 k r a tok ty op l) ?_) rfl
    simp [allT, dec_true.2]
  | true =>
    refine aret_loop2 (hk _ hb) mixed (callf := callS2 k true l) (pu := noPu) (lf := 3000) (fn := Tryz.f11) (hs := hd11) (H := h11) (id := 0) (c := lp11) (B := tl11) f11 n11 bd11 (Nat.le_of_ble_eq_true rfl) rfl rfl
      (ι := Nat) (fun z => same11L z) (fun _ => [.box 25 (cells (uu k r a tok ty op l)), .box 25 (cells (uu k r a tok ty op l))]) (fun z => z ≤ l.length) (fun z => l.length - z) 0 (Nat.zero_le _) ?_ ?_
    · refine head_of (L' := same11L (0 : Nat)) (head11 k r a tok ty op l) ?_ rfl (by simp [renL, same11L, AV.ren, fsel]) (renO_box2 _ _ _)
      simp [allT, dec_true.2]
    · intro z hz
      by_cases hl : z < l.length
      · left
        obtain ⟨⟨k', r', a', tok', ty', op', ks⟩, hu⟩ : ∃ u, l[z]? = some u := ⟨_, List.getElem?_eq_getElem hl⟩
        refine ⟨z + 1, hl, by omega, ?_⟩
        refine step_of (L' := same11L (z + 1 : Nat)) (step11 k l k' r' a' tok' ty' op' ks _ _ _ _ _ _ z) ?_ rfl (by simp [renL, same11L, AV.ren, fsel]) (renO_box2 _ _ _)
        exact ac (dinc hl hf.1) (ac rfl (ac (dec_true.2 ⟨_, List.mem_of_getElem? hu, rfl⟩) (ac (by simp [pureVals, pure_tv]) (ac (d_row hu) (ac (d_row hu) (ac (ylt (by rw [rowsT_len]; exact hl)) rfl))))))
      · right
        have hz' : z = l.length := by omega
        subst hz'
        exact last_of (obs := []) (last11 k l (.v (.int .i8 k)) (I r) (I a) (I tok) (I ty) (B op) l.length) (ac (nlt (by rw [rowsT_len]; exact Nat.le_refl _)) rfl) rfl
end Go.Proofs.YtobehholoenaiaaGreatDoor
namespace Go.Proofs.YtobehholoenaiaaGreatDoor
open Go.Am
noncomputable def hd7 : List Code := [sq1 (bodyOf 7)]
noncomputable def h7 : Code := sq1 (sq1 (sq2 (bodyOf 7)))
noncomputable def lp7 : Code := inn (sq2 (sq1 (sq2 (bodyOf 7))))
noncomputable def tl7 : Code := sq2 (sq2 (bodyOf 7))
def zeroT : List AV := [.v (.int .i8 0), I 0, I 0, I 0, I 0, B false, .v (.slice none 0 0)]
def at7L (p : List Nat) (i : Int) : Am.Loc := [(2, .pt 0 0), (4, .pt 1 0), (5, I 0), (8, .sl 1 (rowsI p)), (9, I p.length), (10, I i)]
theorem head7 (k r a tok ty : Int) (op : Bool) (l : List Tr) (p : List Nat) : outR [2, 4, 5, 8, 9, 10] [0, 1] (runL Tryz.prog 31 base noPu 3000 (hd7 ++ [h7]) (argT 0 [tv (uu k r a tok ty op l), .sl 1 (rowsI p)] .e) .e 0 ⟨0, [.b true], []⟩) =
    some (.normal, [some (.pt 0 0), some (.pt 1 0), some (I 0), some (.sl 1 (rowsI p)), some (I (rowsI p).length), some (I 0)], [some (.box 25 (cells (uu k r a tok ty op l))), some (.box 25 zeroT)], 2, []) := by kernel_rfl
theorem step7 (k r a tok ty : Int) (op : Bool) (l : List Tr) (k2 r2 a2 tok2 ty2 : Int) (op2 : Bool) (l2 : List Tr) (p : List Nat) (z i : Nat) : outR [2, 4, 5, 8, 9, 10] [0, 1] (runCode Tryz.prog 31 base noPu 3000 lp7 (triM (at7L p z)) (triO [.box 25 (cells (uu k r a tok ty op l)), .box 25 zeroT]) 2 ⟨2, [.b true, .row [I i], .b false, .b false, .row (cells (uu k2 r2 a2 tok2 ty2 op2 l2)), .int (z + 1 : Nat), .b true], []⟩) =
    some (.normal, [some (.pt 0 0), some (.pt 1 0), some (I 0), some (.sl 1 (rowsI p)), some (I p.length), some (I (z + 1 : Nat))], [some (.box 25 (cells (uu k2 r2 a2 tok2 ty2 op2 l2))), some (.box 25 zeroT)], 2,
    [dec (IntKind.i64.wrap ((z : Int) + 1) = (z + 1 : Nat)), true && dec ((rowsT l)[i]? = some (cells (uu k2 r2 a2 tok2 ty2 op2 l2))), !decide ((i : Int) ≥ (rowsT l).length), true, true && dec ((rowsI p)[z]? = some [I i]), decide ((z : Int) < p.length)]) := by kernel_rfl
theorem last7 (k r a tok ty : Int) (op : Bool) (l : List Tr) (p : List Nat) (z : Nat) : lastC Tryz.prog [.cell 4 25, .tmp 5] 0 (lastR Tryz.prog 31 base noPu 3000 0 tl7 (runCode Tryz.prog 31 base noPu 3000 lp7 (triM (at7L p z)) (triO [.box 25 (cells (uu k r a tok ty op l)), .box 25 zeroT]) 2 ⟨2, [.b false, .b true], []⟩)) =
    some (.tu [tv (uu k r a tok ty op l), I 0], [], [!decide ((z : Int) < p.length)]) := by kernel_rfl
theorem f7 : Tryz.prog.funcs[7]? = some Tryz.f7 := by kernel_rfl
theorem n7 : (Tryz.f7.name == "runtime.NumGoroutine") = false := by kernel_rfl
theorem bd7 : Tryz.f7.body = some (seqs hd7 (.seq (.seq h7 (.block 0 (.loop lp7))) tl7)) := by kernel_rfl
theorem pure_rowsI : ∀ p : List Nat, pureRows (rowsI p) = true
  | [] => rfl
  | i :: p => by simp [rowsI, pureRows, pureVals, AV.pure]; exact pure_rowsI p
theorem rowsI_len (p : List Nat) : (rowsI p).length = p.length := by simp [rowsI]
theorem atF_take : ∀ (p : List Nat) (t y u : Tr) (z i : Nat), atF t p = some y → p[z]? = some i → atF t (p.take z) = some u → ∃ w, u.kids[i]? = some w ∧ atF t (p.take (z + 1)) = some w
  | [], t, y, u, z, i, h, hi, hu => by simp at hi
  | j :: p, t, y, u, 0, i, h, hi, hu => by
    simp at hi; subst hi
    simp only [List.take_zero, atF, Option.some.injEq] at hu; subst hu
    simp only [atF] at h
    cases hk : t.kids[j]? with
    | none => rw [hk] at h; cases h
    | some w => exact ⟨w, rfl, by simp [atF, hk]⟩
  | j :: p, t, y, u, z + 1, i, h, hi, hu => by
    simp only [List.take_succ_cons, atF] at h hu ⊢
    cases hk : t.kids[j]? with
    | none => rw [hk] at h; cases h
    | some w =>
      rw [hk] at h hu
      exact atF_take p w y u z i h (by simpa using hi) hu
theorem atF_init : ∀ (p : List Nat) (t y : Tr) (z : Nat), atF t p = some y → ∃ u, atF t (p.take z) = some u
  | [], t, y, z, h => by simp [atF]
  | j :: p, t, y, 0, h => by simp [atF]
  | j :: p, t, y, z + 1, h => by
    simp only [List.take_succ_cons, atF] at h ⊢
    cases hk : t.kids[j]? with
    | none => rw [hk] at h; cases h
    | some w => rw [hk] at h; exact atF_init p w y z h
theorem at7 (t y : Tr) (p : List Nat) (hp : p.length ≤ 9223372036854775807) (h : atF t p = some y) : ARet Tryz.prog 7 [tv t, .sl 1 (rowsI p)] [] [] (.tu [tv y, I 0]) [] := by
  have hren : ∀ (f : Nat → Nat) (z : Nat), renL f (at7L p z) = [some (.pt (f 0) 0), some (.pt (f 1) 0), some (I 0), some (.sl 1 (rowsI p)), some (I p.length), some (I z)] := fun f z => by simp [renL, at7L, AV.ren, renRows_pure _ _ (pure_rowsI p)]
  have hrenO : ∀ (f : Nat → Nat) (u : Tr), renO f [.box 25 (cells u), .box 25 zeroT] = [some (.box 25 (cells u)), some (.box 25 zeroT)] := fun f u => by simp [renO, Ob.ren, renVals_pure _ _ (pure_cells _), zeroT, renVals, AV.ren]
  obtain ⟨k, r, a, tok, ty, op, l⟩ := t
  refine aret_loop2 base_ok mixed (callf := base) (pu := noPu) (lf := 3000) (fn := Tryz.f7) (hs := hd7) (H := h7) (id := 0) (c := lp7) (B := tl7) f7 n7 bd7 (Nat.le_of_ble_eq_true rfl) (by simp [AV.und, undVals, tv, undVals_pure 0 _ (pure_cells y)]) rfl
    (ι := Tr × Nat) (fun x => at7L p x.2) (fun x => [.box 25 (cells x.1), .box 25 zeroT]) (fun x => x.2 ≤ p.length ∧ atF (uu k r a tok ty op l) (p.take x.2) = some x.1) (fun x => p.length - x.2) (uu k r a tok ty op l, 0) ⟨Nat.zero_le _, by simp [atF]⟩ ?_ ?_
  · have := head7 k r a tok ty op l p
    rw [rowsI_len] at this
    exact head_of (L' := at7L p (0 : Nat)) this rfl rfl (hren _ _) (hrenO _ _)
  · rintro ⟨⟨k1, r1, a1, tok1, ty1, op1, l1⟩, z⟩ ⟨hz, hu⟩
    simp only at hz hu ⊢
    by_cases hl : z < p.length
    · left
      obtain ⟨i, hi⟩ : ∃ i, p[z]? = some i := ⟨_, List.getElem?_eq_getElem hl⟩
      obtain ⟨⟨k2, r2, a2, tok2, ty2, op2, l2⟩, hw, hw2⟩ := atF_take p _ _ _ z i h hi hu
      refine ⟨(uu k2 r2 a2 tok2 ty2 op2 l2, z + 1), ⟨hl, hw2⟩, by simp only; omega, ?_⟩
      refine step_of (L' := at7L p (z + 1 : Nat)) (step7 k1 r1 a1 tok1 ty1 op1 l1 k2 r2 a2 tok2 ty2 op2 l2 p z i) ?_ rfl (hren _ _) (hrenO _ _)
      simp only [Tr.kids] at hw
      have hil : i < l1.length := (List.getElem?_eq_some_iff.1 hw).1
      refine ac (dinc hl hp) (ac (d_row hw) (ac ?_ (ac rfl (ac ?_ (ac (ylt hl) rfl)))))
      · rw [rowsT_len]; simp; omega
      · rw [Bool.true_and]; exact dec_true.2 (by simp [rowsI, hi])
    · right
      have hz' : z = p.length := by omega
      subst hz'
      rw [List.take_length, h] at hu
      cases hu
      exact last_of (obs := []) (last7 k1 r1 a1 tok1 ty1 op1 l1 p p.length) (ac (nlt (Nat.le_refl _)) rfl) rfl
end Go.Proofs.YtobehholoenaiaaGreatDoor
namespace Go.Proofs.YtobehholoenaiaaGreatDoor
open Go.Am
noncomputable def callP (u : Tr) (p : List Nat) (x v : Tr) : CallF := known1 9 (fun args => args = [tv u, .sl 1 (rowsI p), tv x]) (fun _ => .tu [tv v, I 0]) base
theorem put_nil (k r a tok ty : Int) (op : Bool) (l : List Tr) (k4 r4 a4 tok4 ty4 : Int) (op4 : Bool) (l4 : List Tr) : outC (runOne Tryz.prog noPu 3000 base 9 [tv (uu k r a tok ty op l), .sl 1 (rowsI []), tv (uu k4 r4 a4 tok4 ty4 op4 l4)] .e 0 ⟨0, [.b true, .b true], []⟩) =
    some (.tu [tv (uu k4 r4 a4 tok4 ty4 op4 l4), I 0], [.box 25 (cells (uu k r a tok ty op l)), .box 25 (cells (uu k4 r4 a4 tok4 ty4 op4 l4)), .box 25 (cells (uu k4 r4 a4 tok4 ty4 op4 l4))].map some, [true]) := by kernel_rfl
def putRow (l : List Tr) (i : Nat) (v : Tr) : List (List AV) := List.take (((rowsT l).take i).length + 1) (List.take ((rowsT l).take i).length ((rowsT l).take i) ++ [cells v]) ++ List.take ((rowsT l).length - (i + 1)) (List.drop (i + 1) (rowsT l))
def putLen (l : List Tr) (i : Nat) : Nat := (((rowsT l).take i).length + 1) + (List.take ((rowsT l).length - (i + 1)) (List.drop (i + 1) (rowsT l))).length
theorem put_run (k r a tok ty : Int) (op : Bool) (l : List Tr) (k2 r2 a2 tok2 ty2 : Int) (op2 : Bool) (l2 : List Tr) (k3 r3 a3 tok3 ty3 : Int) (op3 : Bool) (l3 : List Tr) (k4 r4 a4 tok4 ty4 : Int) (op4 : Bool) (l4 : List Tr) (p : List Nat) (i : Nat) :
    outC (runOne Tryz.prog noPu 3000 (callP (uu k2 r2 a2 tok2 ty2 op2 l2) p (uu k4 r4 a4 tok4 ty4 op4 l4) (uu k3 r3 a3 tok3 ty3 op3 l3)) 9 [tv (uu k r a tok ty op l), .sl 1 (rowsI (i :: p)), tv (uu k4 r4 a4 tok4 ty4 op4 l4)] .e 0 ⟨0, [.b false, .row [I i], .b false, .b false, .row (cells (uu k2 r2 a2 tok2 ty2 op2 l2)), .b false, .cut, .int (i+1 : Nat), .b true], []⟩) =
    some (.tu [.ag [.v (.int .i8 k), I r, I a, I tok, I ty, B op, .sr 6 7 0 (putLen l i)], I 0],
      [.box 25 [.v (.int .i8 k), I r, I a, I tok, I ty, B op, .sr 6 7 0 (putLen l i)], .box 25 (cells (uu k4 r4 a4 tok4 ty4 op4 l4)), .box 25 [.v (.int .i8 k), I r, I a, I tok, I ty, B op, .sr 6 7 0 (putLen l i)], .box 25 (cells (uu k3 r3 a3 tok3 ty3 op3 l3)), .row 25 7 [cells (uu k3 r3 a3 tok3 ty3 op3 l3)], .dead, .row 25 7 (putRow l i (uu k3 r3 a3 tok3 ty3 op3 l3))].map some,
    [(true && true && true && Nat.ble (((rowsT l).take i).length + 1) (List.take ((rowsT l).take i).length ((rowsT l).take i) ++ [cells (uu k3 r3 a3 tok3 ty3 op3 l3)]).length) && true && (true && true && rowsOne (List.take ((rowsT l).length - (i + 1)) (List.drop (i + 1) (rowsT l))) && Nat.ble (putLen l i * 72) 140737488355328 && Nat.ble (putLen l i) 9223372036854775807 && true),
     Nat.ble (i + 1) (rowsT l).length && Nat.ble (rowsT l).length (rowsT l).length && true,
     dec (IntKind.i64.wrap ((i : Int) + 1) = (i + 1 : Nat)),
     true && (true && true && true && Nat.ble ((((rowsT l).take i).length + 1) * 72) 140737488355328 && Nat.ble (((rowsT l).take i).length + 1) 9223372036854775807 && true),
     true && dec (0 ≤ i ∧ i = i ∧ i ≤ (rowsT l).length), true, pureVals [tv (uu k3 r3 a3 tok3 ty3 op3 l3), I 0], dec ([tv (uu k2 r2 a2 tok2 ty2 op2 l2), .sl 1 (List.take ((rowsI (i :: p)).length - 1) (List.drop 1 (rowsI (i :: p)))), tv (uu k4 r4 a4 tok4 ty4 op4 l4)] = [tv (uu k2 r2 a2 tok2 ty2 op2 l2), .sl 1 (rowsI p), tv (uu k4 r4 a4 tok4 ty4 op4 l4)]),
     pureVals [tv (uu k2 r2 a2 tok2 ty2 op2 l2), .sl 1 (List.take ((rowsI (i :: p)).length - 1) (List.drop 1 (rowsI (i :: p)))), tv (uu k4 r4 a4 tok4 ty4 op4 l4)] && true && true,
     Nat.ble 1 (rowsI (i :: p)).length && Nat.ble (rowsI (i :: p)).length (rowsI (i :: p)).length && true, true && dec ((rowsT l)[i]? = some (cells (uu k2 r2 a2 tok2 ty2 op2 l2))), !decide ((i : Int) ≥ (rowsT l).length), true, true && dec ((rowsI (i :: p))[0]? = some [I i]), true]) := by kernel_rfl
theorem putRow_eq {l : List Tr} {i : Nat} {v : Tr} (h : i < l.length) : putRow l i v = rowsT (l.set i v) := by
  have h1 : ((rowsT l).take i).length = i := by rw [List.length_take, rowsT_len]; omega
  have e1 : List.take (i + 1) (List.take i ((rowsT l).take i) ++ [cells v]) = (rowsT l).take i ++ [cells v] := by
    rw [List.take_take, Nat.min_self, List.take_of_length_le (by rw [List.length_append, h1]; exact Nat.le_refl _)]
  have e2 : List.take ((rowsT l).length - (i + 1)) (List.drop (i + 1) (rowsT l)) = List.drop (i + 1) (rowsT l) := List.take_of_length_le (by rw [List.length_drop]; exact Nat.le_refl _)
  unfold putRow
  rw [h1, e1, e2]
  simp only [rowsT_map, ← List.map_take, ← List.map_drop]
  rw [List.set_eq_take_append_cons_drop, if_pos h]
  simp
theorem putLen_eq {l : List Tr} {i : Nat} {v : Tr} (h : i < l.length) : putLen l i = (rowsT (l.set i v)).length := by
  unfold putLen
  simp only [List.length_take, List.length_drop, rowsT_len, List.length_set]
  omega
theorem putLen_len {l : List Tr} {i : Nat} (h : i < l.length) : putLen l i = l.length := by rw [putLen_eq (v := .mk 0 0 0 0 0 false []) h, rowsT_len, List.length_set]
theorem one_cells : ∀ t : Tr, (cells t).all AV.one = true
  | .mk .. => by simp [cells, AV.one]
theorem rowsOne_rowsT : ∀ l : List Tr, rowsOne (rowsT l) = true
  | [] => by simp [rowsOne, rowsT]
  | t :: l => by
    have := rowsOne_rowsT l
    simp only [rowsOne, rowsT, List.all_cons, Bool.and_eq_true] at this ⊢
    exact ⟨one_cells t, this⟩
theorem size_kid {l : List Tr} {i : Nat} {u : Tr} (h : l[i]? = some u) : size u ≤ sizes l := by
  induction l generalizing i with
  | nil => simp at h
  | cons a l ih =>
    cases i with
    | zero => simp at h; subst h; simp only [sizes]; omega
    | succ i => have := ih (by simpa using h); simp only [sizes]; omega
theorem size_pos : ∀ t : Tr, 1 ≤ size t
  | .mk .. => by simp [size]
theorem length_sizes : ∀ l : List Tr, l.length ≤ sizes l
  | [] => by simp [sizes]
  | t :: l => by have := length_sizes l; have := size_pos t; simp only [sizes, List.length_cons]; omega
theorem put9 : ∀ (p : List Nat) (t x y : Tr), atF t p = some y → size t ≤ 100000 → p.length ≤ 100000 → ARet Tryz.prog 9 [tv t, .sl 1 (rowsI p), tv x] [] [] (.tu [tv (putF t p x), I 0]) []
  | [], .mk k r a tok ty op l, .mk k4 r4 a4 tok4 ty4 op4 l4, y, _, _, _ =>
    aret_fin (aret_of_run (runOne_ok base_ok mixed _ _) (put_nil k r a tok ty op l k4 r4 a4 tok4 ty4 op4 l4) rfl) (by simp [AV.und, undVals, tv, undVals_pure 0 _ (pure_cells _), putF])
  | i :: p, .mk k r a tok ty op l, x, y, h, hs, hp => by
    simp only [atF, Tr.kids] at h
    cases hk : l[i]? with
    | none => rw [hk] at h; cases h
    | some u =>
      rw [hk] at h
      have hsz : size u ≤ 100000 := by have := size_kid hk; simp only [size] at hs; omega
      have hp' : p.length ≤ 100000 := by simp at hp; omega
      have hll : l.length ≤ 100000 := by have := length_sizes l; simp only [size] at hs; omega
      have hil : i < l.length := (List.getElem?_eq_some_iff.1 hk).1
      have ih := put9 p u x y h hsz hp'
      have hcp : CallOk Tryz.prog (callP u p x (putF u p x)) := known1_ok (fun args e => by subst e; exact ⟨ih, by simp [pureVals, pure_tv, AV.pure, pure_rowsI], by simp [AV.pure, pureVals, pure_tv]⟩) base_ok
      have hput : putF (.mk k r a tok ty op l) (i :: p) x = .mk k r a tok ty op (l.set i (putF u p x)) := by simp only [putF, Tr.kids, hk, Tr.withKids]
      rw [hput]
      generalize hv : putF u p x = v at hcp
      obtain ⟨k3, r3, a3, tok3, ty3, op3, l3⟩ := v
      obtain ⟨k2, r2, a2, tok2, ty2, op2, l2⟩ := u
      obtain ⟨k4, r4, a4, tok4, ty4, op4, l4⟩ := x
      have hdrop : List.take ((rowsI (i :: p)).length - 1) (List.drop 1 (rowsI (i :: p))) = rowsI p := by simp [rowsI, List.take_of_length_le]
      have hlt : ((rowsT l).take i).length = i := by rw [List.length_take, rowsT_len]; omega
      refine aret_fin (aret_frz (aret_of_run (runOne_ok hcp mixed _ _) (put_run k r a tok ty op l k2 r2 a2 tok2 ty2 op2 l2 k3 r3 a3 tok3 ty3 op3 l3 k4 r4 a4 tok4 ty4 op4 l4 p i) ?_) (o := 6) (X := .row 25 7 (putRow l i (.mk k3 r3 a3 tok3 ty3 op3 l3))) rfl (.inl ⟨_, _, _, rfl⟩)
        (r' := .tu [tv (.mk k r a tok ty op (l.set i (.mk k3 r3 a3 tok3 ty3 op3 l3))), I 0]) ?_ (List.length_map ..) all_dead) (by simp [AV.und, undVals, tv, undVals_pure 0 _ (pure_cells _)])
      · refine ac (andt (andt (andt rfl (nle ?_)) rfl) (andt (andt (andt (andt rfl ?_) (nle ?_)) (nle ?_)) rfl)) (ac (andt (andt (nle ?_) (nle (Nat.le_refl _))) rfl) (ac (dec_true.2 ((wrap64 (by omega) (by omega)).trans (by omega))) (ac (andt rfl (andt (andt (andt rfl (nle ?_)) (nle ?_)) rfl)) (ac (andt rfl (dec_true.2 ⟨Nat.zero_le _, rfl, by rw [rowsT_len]; omega⟩)) (ac rfl (ac (by simp [pureVals, pure_tv, AV.pure])
          (ac (dec_true.2 (by rw [hdrop])) (ac (by rw [hdrop]; simp [pureVals, pure_tv, AV.pure, pure_rowsI]) (ac (andt (andt (nle (by simp [rowsI])) (nle (Nat.le_refl _))) rfl) (ac (d_row hk) (ac (by rw [rowsT_len]; simp; omega) (ac rfl (ac (andt rfl (dec_true.2 (by simp [rowsI]))) (ac rfl rfl))))))))))))))
        · simp [rowsT_len]
        · have h1 := rowsOne_rowsT l
          simp only [rowsOne] at h1 ⊢
          rw [List.all_eq_true] at h1 ⊢
          exact fun q hq => h1 q (List.mem_of_mem_drop (List.mem_of_mem_take hq))
        · rw [putLen_len hil]; omega
        · rw [putLen_len hil]; omega
        · rw [rowsT_len]; omega
        · rw [hlt]; omega
        · rw [hlt]; omega
      · have := Frz.sr0 (o := 6) (n := putLen l i) (X := .row 25 7 (putRow l i (.mk k3 r3 a3 tok3 ty3 op3 l3))) (T := 25) (S := 7) rfl (by rw [putRow_eq hil]; exact putLen_eq hil)
        rw [putRow_eq hil] at this ⊢
        exact Frz.tu (.cons (Frz.ag (.cons (.same _) (.cons (.same _) (.cons (.same _) (.cons (.same _) (.cons (.same _) (.cons (.same _) (.cons this .nil)))))))) (.cons (.same _) .nil))
end Go.Proofs.YtobehholoenaiaaGreatDoor
namespace Go.Proofs.YtobehholoenaiaaGreatDoor
open Go.Am
abbrev nilS : AV := .v (.slice none 0 0)
theorem clone_run (ps : List (List AV)) (k : Nat) : outC (runOne Tryz.prog noPu 3000 base 28 [.sr 0 1 0 (k + 1)] (triO [.row 3 1 ps]) 1 ⟨1, [.b false, .b true, .b true], []⟩) =
    some (.sr 2 1 0 (0 + (List.take (k + 1) ps).length), [.row 3 1 ps, .dead, .row 3 1 (List.take (k + 1) ps)].map some,
      [(true && true && true && true && (true && true && Nat.ble (0 + (k + 1)) ps.length)) && (true && true && rowsOne (List.take (k + 1) ps) && Nat.ble ((0 + (List.take (k + 1) ps).length) * 8) 140737488355328 && Nat.ble (0 + (List.take (k + 1) ps).length) 9223372036854775807 && true), true]) := by kernel_rfl
theorem clone_nil : outC (runOne Tryz.prog noPu 3000 base 28 [nilS] .e 0 ⟨0, [.b true, .b true], []⟩) = some (nilS, [], [true]) := by kernel_rfl
theorem rowsOne_rowsI : ∀ p : List Nat, rowsOne (rowsI p) = true
  | [] => rfl
  | i :: p => by
    have := rowsOne_rowsI p
    simp only [rowsOne, rowsI, List.map_cons, List.all_cons, Bool.and_eq_true] at this ⊢
    exact ⟨⟨by simp [AV.one], rfl⟩, this⟩
theorem clone28 (p : List Nat) (h0 : p ≠ []) (hp : p.length ≤ 100000) : ARet Tryz.prog 28 [.sr 0 1 0 p.length] [.row 3 1 (rowsI p)] [] (.sl 1 (rowsI p)) [.row 3 1 (rowsI p)] := by
  obtain ⟨k, hk⟩ : ∃ k, p.length = k + 1 := by cases p with
    | nil => exact absurd rfl h0
    | cons i p => exact ⟨p.length, rfl⟩
  have ht : List.take (k + 1) (rowsI p) = rowsI p := List.take_of_length_le (by rw [rowsI_len]; omega)
  have := clone_run (rowsI p) k
  rw [ht] at this
  rw [hk]
  have h := aret_of_runB (runOne_ok base_ok mixed _ _) (ob := [.row 3 1 (rowsI p)]) (obs := [.row 3 1 (rowsI p), .dead, .row 3 1 (rowsI p)]) this (ac (andt (andt rfl (andt rfl (nle (by rw [rowsI_len]; omega)))) (andt (andt (andt (andt rfl (rowsOne_rowsI p)) (nle (by rw [rowsI_len]; omega))) (nle (by rw [rowsI_len]; omega))) rfl)) (ac rfl rfl))
  have h2 := aret_frz (ob2 := [.row 3 1 (rowsI p), .dead, .dead]) h (o := 2) (X := .row 3 1 (rowsI p)) rfl (.inl ⟨_, _, _, rfl⟩) (Frz.sr0 rfl (by omega)) rfl (fun i Y Y' h1 h2 => by
    match i with
    | 0 => simp at h1 h2; subst h1; subst h2; exact .inr ⟨by omega, .same _⟩
    | 1 => simp at h2; exact .inl h2.symm
    | 2 => simp at h2; exact .inl h2.symm
    | i + 3 => simp at h2)
  exact aret_dropR (h2.mono fun e o hh => ⟨hh.1, [.dead, .dead], by rw [hh.2]; rfl⟩) (by simp [AV.und, undRows_pure _ _ (pure_rowsI p)])
/-- .. wherever the row stands -/
theorem clone28_at (p : List Nat) (h0 : p ≠ []) (hp : p.length ≤ 100000) {ob : List Ob} {o : Nat} (ho : ob[o]? = some (.row 3 1 (rowsI p))) : ARet Tryz.prog 28 [.sr o 1 0 p.length] ob [] (.sl 1 (rowsI p)) ob := by
  have h := aret_sel (clone28 p h0 hp) (fun g => by simp [Ob.ren, renRows_pure _ _ (pure_rowsI p)]) (by simp) (by simp [AV.pure, pure_rowsI]) ho
  have e : renVals (fsel [o] ob.length) [.sr 0 1 0 p.length] = [.sr o 1 0 p.length] := by
    simp only [renVals, AV.ren]
    rw [fsel_lt (sel := [o]) (i := 0) (s := o) rfl]
  rwa [e] at h
theorem clone28_nil (ob : List Ob) : ARet Tryz.prog 28 [nilS] ob [] (.sl 1 (rowsI [])) ob :=
  aret_weak (aret_up (aret_of_run (runOne_ok base_ok mixed _ _) (obs := []) clone_nil rfl) rfl rfl ob) fun m γ x h => weak_nil x h
end Go.Proofs.YtobehholoenaiaaGreatDoor
namespace Go.Proofs.YtobehholoenaiaaGreatDoor
open Go.Am
noncomputable def b4 : Code := bodyOf 4
noncomputable def x4 : Code := sq2 (sq2 (sq2 (sq2 (sq2 b4))))
noncomputable def hd4 : List Code := [sq1 b4, sq1 (sq2 b4), sq1 (sq2 (sq2 b4)), sq1 (sq2 (sq2 (sq2 b4))), sq1 (sq2 (sq2 (sq2 (sq2 b4)))), sq1 (sq1 x4)]
noncomputable def r4 : Code := match sq2 (sq1 x4) with
  | .block _ c => c
  | c => c
noncomputable def call4 (t x : Tr) : CallF := known1 13 (fun args => args = [tv t] ∨ args = [tv x]) (fun args => I (cntN (unT (args.headD .any)))) base
noncomputable def k4 : YCode := match r4 with
  | .rangeFunc _ ps a b => ⟨116, ps, a, b, none⟩
  | _ => ⟨0, #[], .skip, .skip, none⟩
def lpS : List Nat := [0, 32, 8, 24, 4, 20, 28, 2, 26, 6, 22, 30, 1, 25, 5, 21, 29, 3, 19, 7, 23, 31]
noncomputable def lpC (t x : Tr) (w : Int) : List AV := [tv t, .fn (.func 26) [] [.pt 5 0], .fn (.func 26) [] [.pt 5 0], I (cntN (unT (tv x))), .pt 1 0, I (cntN (unT (tv t))), tv t, I w, B false, .pt 3 0, B false, .fn (.func 26) [] [.pt 5 0], tv x, B false, .pt 2 0, B false, .fn (.func 26) [] [.pt 5 0], .pt 0 0, tv t, .pt 4 0, tv x, B false]
noncomputable def lp4 (t x : Tr) (w : Int) : Ob := .lp false k4 lpS (lpC t x w)
/-- the store while the walk goes on: n places are told, the path stands so -/
noncomputable def st (t x : Tr) (w n : Int) (path : AV) : List Ob := [.box 25 (cells t), .box 25 (cells x), .box 3 [I w], .box 4 [B false], .box 3 [I n], .box 25 (cells t), lp4 t x w, .box 58 [.yl 6], .box 26 [path], .box 59 [.fn (.func 27) [] [.pt 7 0, .pt 8 0, .pt 9 0]]]
noncomputable def atG (k : Nat) (c1 c2 : CallF) : CallF := fun f args O N tm => cond (Nat.ble k tm.gd.length) (c1 f args O N tm) (c2 f args O N tm)
theorem atG_ok {k : Nat} {c1 c2 : CallF} (h1 : CallOk Tryz.prog c1) (h2 : CallOk Tryz.prog c2) : CallOk Tryz.prog (atG k c1 c2) := fun f args O N tm => by
  unfold atG
  cases Nat.ble k tm.gd.length with
  | true => exact h1 f args O N tm
  | false => exact h2 f args O N tm
/-- what a round calls before it looks for 'which' -/
noncomputable def callA (t y : Tr) (p : List Nat) : CallF := known1 7 (fun args => args = [tv t, .sl 1 (rowsI p)]) (fun _ => .tu [tv y, I 0]) <| known1 9 (fun args => args = [tv t, .sl 1 (rowsI p), tv y]) (fun _ => .tu [tv t, I 0]) <| known1 11 (fun args => args = [tv y, tv y] ∨ args = [tv t, tv t]) (fun _ => B true) base
/-- .. and behind it -/
noncomputable def callB (t x c : Tr) (p : List Nat) : CallF := known1 9 (fun args => args = [tv t, .sl 1 (rowsI p), tv x]) (fun _ => .tu [tv c, I 0]) <| known1 7 (fun args => args = [tv c, .sl 1 (rowsI p)]) (fun _ => .tu [tv x, I 0]) <| known1 11 (fun args => args = [tv x, tv x]) (fun _ => B true) <| known1 12 (fun args => ∃ u, args = [tv u] ∧ size u ≤ 100000) (fun args => I (cntN (unT (args.headD .any)))) base
end Go.Proofs.YtobehholoenaiaaGreatDoor
