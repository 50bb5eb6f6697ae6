/- The document's Cut and Index. The document's Index and Fair. The document's Units and Place. The document's Seen, Hidden, Items and Span; the comparison of equal items. -/
import Derived.Test.YtifnhnkogcgnaaaDoorG1
import Derived.Test.YtifnhnkogcgnaaaDoorE9
import Derived.Test.YtifnhnkogcgnaaaDoorE12
namespace Go.Proofs.YtifnhnkogcgnaaaDoor
open Go.Am
def AtArg (bs : List Nat) (args : List AV) : Prop := ∃ a : Nat, a < bs.length ∧ args = [.sl 1 (rowsB bs), I a]
def atRes (bs : List Nat) : List AV → AV
  | [_, .v (.int _ a)] => .tu [.v (.int .i32 (unitP (bs.drop a.toNat)).1), .v (.int .i64 (unitP (bs.drop a.toNat)).2)]
  | _ => .any
noncomputable def callR38 (bs : List Nat) : CallF := known1 48 (AtArg bs) (atRes bs) base
noncomputable def hd38 : List Code := [sq1 (bodyOf 38), sq1 (sq2 (bodyOf 38)), sq1 (sq2 (sq2 (bodyOf 38)))]
noncomputable def h38 : Code := sq1 (sq1 (sq2 (sq2 (sq2 (bodyOf 38)))))
noncomputable def lp38 : Code := inn (sq2 (sq1 (sq2 (sq2 (sq2 (bodyOf 38))))))
noncomputable def tl38 : Code := sq2 (sq2 (sq2 (sq2 (bodyOf 38))))
def cutL (bs : List Nat) (col a : Int) : Am.Loc := [(0, .sl 1 (rowsB bs)), (2, .pt 0 0), (3, .pt 1 0), (4, I col), (5, I a)]
def headC (bs : List Nat) (f u c : AV) : List AV := [.sl 1 (rowsB bs), f, u, c]
def zeroH : Ob := .box [nilS, nilS, nilS, nilS]
theorem cut_0s (bs : List Nat) (col a a' k : Nat) (f u c : List (List AV)) : outR [0, 2, 3, 4, 5] [0, 1, 3, 5, 7] (runCode Tryd.prog 64 (callR38 bs) noPu 3000 lp38 (triM (cutL bs col a)) (triO [zeroH, .box (headC bs nilS nilS nilS)]) 2 ⟨2, [.b true, .int (col + 1 : Nat), .b false, .int (a' : Nat), .b true], []⟩) = some (.normal, [some (.sl 1 (rowsB bs)), some (.pt 0 0), some (.pt 1 0), some (I (col + 1 : Nat)), some (I (a' : Nat))], [some zeroH, some (.box (headC bs (.sr 3 1 0 1) (.sr 5 1 0 1) (.sr 7 1 0 1))), some (.row 3 1 ([[I a]])), some (.row 21 1 ([[.v (.int .i32 (unitP (bs.drop (a : Int).toNat)).1)]])), some (.row 3 1 ([[I col]]))], 8, [dec (IntKind.i64.wrap ((a : Int) + ((unitP (bs.drop (a : Int).toNat)).2 : Nat)) = (a' : Nat)), !((unitP (bs.drop (a : Int).toNat)).1 == 10), dec (IntKind.i64.wrap ((col : Int) + 1) = (col + 1 : Nat)), true, true, true, dec (AtArg bs [.sl 1 (rowsB bs), I a]), decide ((a : Int) < (rowsB bs).length)]) := by kernel_rfl
theorem cut_0n (bs : List Nat) (col a a' k : Nat) (f u c : List (List AV)) : outR [0, 2, 3, 4, 5] [0, 1, 3, 5, 7] (runCode Tryd.prog 64 (callR38 bs) noPu 3000 lp38 (triM (cutL bs col a)) (triO [zeroH, .box (headC bs nilS nilS nilS)]) 2 ⟨2, [.b true, .int (col + 1 : Nat), .b true, .int (a' : Nat), .b true], []⟩) = some (.normal, [some (.sl 1 (rowsB bs)), some (.pt 0 0), some (.pt 1 0), some (I 0), some (I (a' : Nat))], [some zeroH, some (.box (headC bs (.sr 3 1 0 1) (.sr 5 1 0 1) (.sr 7 1 0 1))), some (.row 3 1 ([[I a]])), some (.row 21 1 ([[.v (.int .i32 (unitP (bs.drop (a : Int).toNat)).1)]])), some (.row 3 1 ([[I col]]))], 8, [dec (IntKind.i64.wrap ((a : Int) + ((unitP (bs.drop (a : Int).toNat)).2 : Nat)) = (a' : Nat)), ((unitP (bs.drop (a : Int).toNat)).1 == 10), dec (IntKind.i64.wrap ((col : Int) + 1) = (col + 1 : Nat)), true, true, true, dec (AtArg bs [.sl 1 (rowsB bs), I a]), decide ((a : Int) < (rowsB bs).length)]) := by kernel_rfl
theorem cut_1s (bs : List Nat) (col a a' k : Nat) (f u c : List (List AV)) : outR [0, 2, 3, 4, 5] [0, 1, 6, 8, 10] (runCode Tryd.prog 64 (callR38 bs) noPu 3000 lp38 (triM (cutL bs col a)) (triO [zeroH, .box (headC bs (.sr 2 1 0 k) (.sr 3 1 0 k) (.sr 4 1 0 k)), .row 3 1 f, .row 21 1 u, .row 3 1 c]) 5 ⟨5, [.b true, .int (col + 1 : Nat), .b false, .int (a' : Nat), .b true], []⟩) = some (.normal, [some (.sl 1 (rowsB bs)), some (.pt 0 0), some (.pt 1 0), some (I (col + 1 : Nat)), some (I (a' : Nat))], [some zeroH, some (.box (headC bs (.sr 6 1 0 (k + 1)) (.sr 8 1 0 (k + 1)) (.sr 10 1 0 (k + 1)))), some (.row 3 1 (f.take k ++ [[I a]])), some (.row 21 1 (u.take k ++ [[.v (.int .i32 (unitP (bs.drop (a : Int).toNat)).1)]])), some (.row 3 1 (c.take k ++ [[I col]]))], 11, [dec (IntKind.i64.wrap ((a : Int) + ((unitP (bs.drop (a : Int).toNat)).2 : Nat)) = (a' : Nat)), !((unitP (bs.drop (a : Int).toNat)).1 == 10), dec (IntKind.i64.wrap ((col : Int) + 1) = (col + 1 : Nat)), (true && Nat.ble k c.length) && (true && Nat.ble ((k + 1) * 8) 140737488355328 && Nat.ble (k + 1) 9223372036854775807), (true && Nat.ble k u.length) && (true && Nat.ble ((k + 1) * 4) 140737488355328 && Nat.ble (k + 1) 9223372036854775807), (true && Nat.ble k f.length) && (true && Nat.ble ((k + 1) * 8) 140737488355328 && Nat.ble (k + 1) 9223372036854775807), dec (AtArg bs [.sl 1 (rowsB bs), I a]), decide ((a : Int) < (rowsB bs).length)]) := by kernel_rfl
theorem cut_1n (bs : List Nat) (col a a' k : Nat) (f u c : List (List AV)) : outR [0, 2, 3, 4, 5] [0, 1, 6, 8, 10] (runCode Tryd.prog 64 (callR38 bs) noPu 3000 lp38 (triM (cutL bs col a)) (triO [zeroH, .box (headC bs (.sr 2 1 0 k) (.sr 3 1 0 k) (.sr 4 1 0 k)), .row 3 1 f, .row 21 1 u, .row 3 1 c]) 5 ⟨5, [.b true, .int (col + 1 : Nat), .b true, .int (a' : Nat), .b true], []⟩) = some (.normal, [some (.sl 1 (rowsB bs)), some (.pt 0 0), some (.pt 1 0), some (I 0), some (I (a' : Nat))], [some zeroH, some (.box (headC bs (.sr 6 1 0 (k + 1)) (.sr 8 1 0 (k + 1)) (.sr 10 1 0 (k + 1)))), some (.row 3 1 (f.take k ++ [[I a]])), some (.row 21 1 (u.take k ++ [[.v (.int .i32 (unitP (bs.drop (a : Int).toNat)).1)]])), some (.row 3 1 (c.take k ++ [[I col]]))], 11, [dec (IntKind.i64.wrap ((a : Int) + ((unitP (bs.drop (a : Int).toNat)).2 : Nat)) = (a' : Nat)), ((unitP (bs.drop (a : Int).toNat)).1 == 10), dec (IntKind.i64.wrap ((col : Int) + 1) = (col + 1 : Nat)), (true && Nat.ble k c.length) && (true && Nat.ble ((k + 1) * 8) 140737488355328 && Nat.ble (k + 1) 9223372036854775807), (true && Nat.ble k u.length) && (true && Nat.ble ((k + 1) * 4) 140737488355328 && Nat.ble (k + 1) 9223372036854775807), (true && Nat.ble k f.length) && (true && Nat.ble ((k + 1) * 8) 140737488355328 && Nat.ble (k + 1) 9223372036854775807), dec (AtArg bs [.sl 1 (rowsB bs), I a]), decide ((a : Int) < (rowsB bs).length)]) := by kernel_rfl
def cutO0 (bs : List Nat) (col : Nat) : List Ob := [.box (headC bs (.sr 3 1 0 1) (.sr 5 1 0 1) (.sr 7 1 0 1)), .box (headC bs (.sr 3 1 0 1) (.sr 5 1 0 1) (.sr 7 1 0 1)), .row 3 1 [[I (rowsB bs).length]], .row 3 1 [[I (rowsB bs).length]], .row 21 1 [[.v (.int .i32 (-1))]], .row 21 1 [[.v (.int .i32 (-1))]], .row 3 1 [[I col]], .row 3 1 [[I col]]]
theorem cut_l0 (bs : List Nat) (col a : Nat) : lastC Tryd.prog [.cell 2 77] 8 (lastR Tryd.prog 64 (callR38 bs) noPu 3000 0 tl38 (runCode Tryd.prog 64 (callR38 bs) noPu 3000 lp38 (triM (cutL bs col a)) (triO [zeroH, .box (headC bs nilS nilS nilS)]) 2 ⟨2, [.b false, .b true], []⟩)) = some (.ag (headC bs (.sr 3 1 0 1) (.sr 5 1 0 1) (.sr 7 1 0 1)), (cutO0 bs col).map some, [true, true, true, !decide ((a : Int) < (rowsB bs).length)]) := by kernel_rfl
def cutO1 (bs : List Nat) (col k : Nat) (f u c : List (List AV)) : List Ob := [.box (headC bs (.sr 6 1 0 (k + 1)) (.sr 8 1 0 (k + 1)) (.sr 10 1 0 (k + 1))), .box (headC bs (.sr 6 1 0 (k + 1)) (.sr 8 1 0 (k + 1)) (.sr 10 1 0 (k + 1))), .dead, .dead, .dead, .row 3 1 [[I (rowsB bs).length]], .row 3 1 (f.take k ++ [[I (rowsB bs).length]]), .row 21 1 [[.v (.int .i32 (-1))]], .row 21 1 (u.take k ++ [[.v (.int .i32 (-1))]]), .row 3 1 [[I col]], .row 3 1 (c.take k ++ [[I col]])]
theorem cut_l1 (bs : List Nat) (col a k : Nat) (f u c : List (List AV)) : lastC Tryd.prog [.cell 2 77] 11 (lastR Tryd.prog 64 (callR38 bs) noPu 3000 0 tl38 (runCode Tryd.prog 64 (callR38 bs) noPu 3000 lp38 (triM (cutL bs col a)) (triO [zeroH, .box (headC bs (.sr 2 1 0 k) (.sr 3 1 0 k) (.sr 4 1 0 k)), .row 3 1 f, .row 21 1 u, .row 3 1 c]) 5 ⟨5, [.b false, .b true], []⟩)) = some (.ag (headC bs (.sr 6 1 0 (k + 1)) (.sr 8 1 0 (k + 1)) (.sr 10 1 0 (k + 1))), (cutO1 bs col k f u c).map some, [(true && Nat.ble k c.length) && (true && Nat.ble ((k + 1) * 8) 140737488355328 && Nat.ble (k + 1) 9223372036854775807), (true && Nat.ble k u.length) && (true && Nat.ble ((k + 1) * 4) 140737488355328 && Nat.ble (k + 1) 9223372036854775807), (true && Nat.ble k f.length) && (true && Nat.ble ((k + 1) * 8) 140737488355328 && Nat.ble (k + 1) 9223372036854775807), !decide ((a : Int) < (rowsB bs).length)]) := by kernel_rfl
theorem cut_head (bs : List Nat) : outR [0, 2, 3, 4, 5] [0, 1] (runL Tryd.prog 64 (callR38 bs) noPu 3000 (hd38 ++ [h38]) (argT 0 [.sl 1 (rowsB bs)] .e) .e 0 ⟨0, [.b true], []⟩) = some (.normal, [some (.sl 1 (rowsB bs)), some (.pt 0 0), some (.pt 1 0), some (I 0), some (I 0)], [some zeroH, some (.box (headC bs nilS nilS nilS))], 2, []) := by kernel_rfl

def keepO (K : Nat → Bool) : Nat → List Ob → List Ob
  | _, [] => []
  | k, X :: l => cond (K k) X .dead :: keepO K (k + 1) l
theorem keepO_len (K : Nat → Bool) : ∀ (k : Nat) (l : List Ob), (keepO K k l).length = l.length
  | _, [] => rfl
  | k, X :: l => by simp [keepO, keepO_len K (k + 1) l]
theorem keepO_get (K : Nat → Bool) : ∀ (k : Nat) (l : List Ob) (i : Nat), (keepO K k l)[i]? = (l[i]?).map fun X => cond (K (k + i)) X .dead
  | _, [], i => by simp [keepO]
  | k, X :: l, 0 => by simp [keepO]
  | k, X :: l, i + 1 => by
    simp only [keepO, List.getElem?_cons_succ]
    rw [keepO_get K (k + 1) l i, show k + 1 + i = k + (i + 1) from by omega]
/-- one object frozen, some kept as they are, all else forgotten -/
theorem aret_frzK {f : FuncId} {args : List AV} {r r' : AV} {ob : List Ob} {o T S : Nat} {rows : List (List AV)} (K : Nat → Bool) (h : ARet Tryd.prog f args [] [] r ob) (ho : ob[o]? = some (.row T S rows)) (hr : Frz o (.row T S rows) r r') (hK : K o = false) : ARet Tryd.prog f args [] [] r' (keepO K 0 ob) :=
  aret_frz h ho (.inl ⟨_, _, _, rfl⟩) hr (keepO_len K 0 ob) fun i Y Y' h1 h2 => by
    rw [keepO_get, h1] at h2
    simp only [Option.map_some, Nat.zero_add, Option.some.injEq] at h2
    cases hKi : K i with
    | false => rw [hKi] at h2; exact .inl h2.symm
    | true =>
      rw [hKi] at h2
      simp only [cond_true] at h2
      subst h2
      exact .inr ⟨fun e => (by rw [e, hK] at hKi; cases hKi), FrzOb.same _⟩
def unitR (l : List Int) : List (List AV) := l.map fun z => [.v (.int .i32 z)]
theorem pure_unitR : ∀ l : List Int, pureRows (unitR l) = true
  | [] => rfl
  | z :: l => by
    have := pure_unitR l
    simp only [unitR] at this
    simp [unitR, pureRows, pureVals, AV.pure, this]
theorem rowsI_app (l : List Nat) (a : Nat) : rowsI (l ++ [a]) = rowsI l ++ [[I a]] := by simp [rowsI]
theorem unitR_app (l : List Int) (z : Int) : unitR (l ++ [z]) = unitR l ++ [[.v (.int .i32 z)]] := by simp [unitR]
theorem cut_fin {bs : List Nat} {ob : List Ob} {o1 o2 o3 m : Nat} {F C : List Nat} {U : List Int} (h12 : o1 ≠ o2 ∧ o1 ≠ o3 ∧ o2 ≠ o3) (h : ARet Tryd.prog 38 [.sl 1 (rowsB bs)] [] [] (.ag (headC bs (.sr o1 1 0 m) (.sr o2 1 0 m) (.sr o3 1 0 m))) ob) (h1 : ob[o1]? = some (.row 3 1 (rowsI F))) (h2 : ob[o2]? = some (.row 21 1 (unitR U))) (h3 : ob[o3]? = some (.row 3 1 (rowsI C)))
    (m1 : m = F.length) (m2 : m = U.length) (m3 : m = C.length) : ARet Tryd.prog 38 [.sl 1 (rowsB bs)] [] [] (.ag (headC bs (.sl 1 (rowsI F)) (.sl 1 (unitR U)) (.sl 1 (rowsI C)))) [] := by
  have g1 := aret_frzK (r' := .ag (headC bs (.sl 1 (rowsI F)) (.sr o2 1 0 m) (.sr o3 1 0 m))) (fun i => Nat.beq i o2 || Nat.beq i o3) h h1 (Frz.ag (.cons (Frz.same _) (.cons (Frz.sr0 rfl (by rw [m1]; simp [rowsI])) (FrzL.same _)))) (by
    simp only [Bool.or_eq_false_iff, beq_eq]
    exact ⟨decide_eq_false h12.1, decide_eq_false h12.2.1⟩)
  have k2 : (keepO (fun i => Nat.beq i o2 || Nat.beq i o3) 0 ob)[o2]? = some (.row 21 1 (unitR U)) := by rw [keepO_get, h2]; simp
  have k3 : (keepO (fun i => Nat.beq i o2 || Nat.beq i o3) 0 ob)[o3]? = some (.row 3 1 (rowsI C)) := by rw [keepO_get, h3]; simp
  have g2 := aret_frzK (r' := .ag (headC bs (.sl 1 (rowsI F)) (.sl 1 (unitR U)) (.sr o3 1 0 m))) (fun i => Nat.beq i o3) g1 k2 (Frz.ag (.cons (Frz.same _) (.cons (Frz.same _) (.cons (Frz.sr0 rfl (by rw [m2]; simp [unitR])) (FrzL.same _))))) (by
    simp only [beq_eq]; exact decide_eq_false h12.2.2)
  have k4 : (keepO (fun i => Nat.beq i o3) 0 (keepO (fun i => Nat.beq i o2 || Nat.beq i o3) 0 ob))[o3]? = some (.row 3 1 (rowsI C)) := by rw [keepO_get, k3]; simp
  have g3 := aret_frzK (r' := .ag (headC bs (.sl 1 (rowsI F)) (.sl 1 (unitR U)) (.sl 1 (rowsI C)))) (fun _ => false) g2 k4 (Frz.ag (.cons (Frz.same _) (.cons (Frz.same _) (.cons (Frz.same _) (.cons (Frz.sr0 rfl (by rw [m3]; simp [rowsI])) (FrzL.same _)))))) rfl
  exact aret_fin g3 (by simp [AV.und, undVals, headC, undRows_pure _ _ (pure_bytes bs), undRows_pure _ _ (pure_rowsI _), undRows_pure _ _ (pure_unitR _)])
theorem starts_eq (bs : List Nat) (k a : Nat) : starts bs (k + 1) a = if a < bs.length then a :: starts bs k (a + (unitP (bs.drop a)).2) else [] := by
  simp only [starts, (unit50 bs a).2]
theorem unit_size (bs : List Nat) (hb : ∀ b ∈ bs, b < 256) (a : Nat) (ha : a < bs.length) : 1 ≤ (unitP (bs.drop a)).2 ∧ (unitP (bs.drop a)).2 ≤ 4 := by
  have h := at_sized bs hb a ha
  unfold Sized at h
  rw [(unit50 bs a).2] at h
  exact ⟨h.1, h.2.1⟩
theorem at_known (bs : List Nat) (hb : ∀ b ∈ bs, b < 256) (hl : bs.length ≤ 100000) (args : List AV) (h : AtArg bs args) : ARet Tryd.prog 48 args [] [] (atRes bs args) [] ∧ pureVals args = true ∧ (atRes bs args).pure = true := by
  obtain ⟨a, ha, rfl⟩ := h
  exact ⟨ref_at bs hb a ha hl, by simp [pureVals, AV.pure, pure_bytes], rfl⟩
def cutS (F : List Nat) (o : Nat) : AV := match F with
  | [] => nilS
  | _ :: _ => .sr o 1 0 F.length
def cutB (bs : List Nat) (F : List Nat) (U : List Int) (C : List Nat) : List Ob := zeroH :: .box (headC bs (cutS F 2) (cutS F 3) (cutS F 4)) :: match F with
  | [] => []
  | _ :: _ => [.row 3 1 (rowsI F), .row 21 1 (unitR U), .row 3 1 (rowsI C)]
theorem cut_ok (bs : List Nat) (hb : ∀ b ∈ bs, b < 256) (hl : bs.length ≤ 100000) : ∃ (U : List Int) (C : List Nat), ARet Tryd.prog 38 [.sl 1 (rowsB bs)] [] [] (.ag (headC bs (.sl 1 (rowsI (startsOf bs ++ [bs.length]))) (.sl 1 (unitR U)) (.sl 1 (rowsI C)))) [] := by
  have hlen : (rowsB bs).length = bs.length := rowsB_len bs
  have hcf : CallOk Tryd.prog (callR38 bs) := known1_ok (at_known bs hb hl) base_ok
  have hren : ∀ f (c a : Int), renL f (cutL bs c a) = [some (.sl 1 (rowsB bs)), some (.pt (f 0) 0), some (.pt (f 1) 0), some (I c), some (I a)] := fun f c a => by simp [renL, cutL, AV.ren, renRows_pure _ _ (pure_bytes bs)]
  have hz : ∀ f, Ob.ren f zeroH = zeroH := fun f => by simp [zeroH, Ob.ren, renVals, AV.ren, nilS]
  have hh : ∀ f x y z, renVals f (headC bs x y z) = headC bs (x.ren f) (y.ren f) (z.ren f) := fun f x y z => by simp [headC, renVals, AV.ren, renRows_pure _ _ (pure_bytes bs)]
  -- what the walk leaves behind
  obtain ⟨cols, hcols⟩ : ∃ cols : Nat → Nat → Nat → List Nat × Nat, ∀ k a c, cols k a c = match k with
    | 0 => ([], c)
    | k + 1 => if a < bs.length then ((c :: (cols k (a + (unitP (bs.drop a)).2) (if (unitP (bs.drop a)).1 = 10 then 0 else c + 1)).1), (cols k (a + (unitP (bs.drop a)).2) (if (unitP (bs.drop a)).1 = 10 then 0 else c + 1)).2) else ([], c) := by
    refine ⟨fun k => Nat.rec (motive := fun _ => Nat → Nat → List Nat × Nat) (fun _ c => ([], c)) (fun _ ih a c => if a < bs.length then ((c :: (ih (a + (unitP (bs.drop a)).2) (if (unitP (bs.drop a)).1 = 10 then 0 else c + 1)).1), (ih (a + (unitP (bs.drop a)).2) (if (unitP (bs.drop a)).1 = 10 then 0 else c + 1)).2) else ([], c)) k, fun k a c => ?_⟩
    cases k <;> rfl
  obtain ⟨us, hus⟩ : ∃ us : Nat → Nat → List Int, ∀ k a, us k a = match k with
    | 0 => []
    | k + 1 => if a < bs.length then (unitP (bs.drop a)).1 :: us k (a + (unitP (bs.drop a)).2) else [] := by
    refine ⟨fun k => Nat.rec (motive := fun _ => Nat → List Int) (fun _ => []) (fun _ ih a => if a < bs.length then (unitP (bs.drop a)).1 :: ih (a + (unitP (bs.drop a)).2) else []) k, fun k a => ?_⟩
    cases k <;> rfl
  generalize hF : startsOf bs = F
  generalize hU : us bs.length 0 = U
  generalize hC : (cols bs.length 0 0).1 = C
  generalize hc : (cols bs.length 0 0).2 = cend
  have lens : ∀ k a c, (starts bs k a).length = (us k a).length ∧ (starts bs k a).length = (cols k a c).1.length := by
    intro k
    induction k with
    | zero => intro a c; rw [hus, hcols]; simp [starts]
    | succ k ih =>
      intro a c
      rw [hus, hcols, starts_eq]
      by_cases ha : a < bs.length
      · simp only [if_pos ha, List.length_cons]
        obtain ⟨i1, i2⟩ := ih (a + (unitP (bs.drop a)).2) (if (unitP (bs.drop a)).1 = 10 then 0 else c + 1)
        exact ⟨by rw [i1], by rw [i2]⟩
      · simp [if_neg ha]
  have hl1 := lens bs.length 0 0
  rw [hU, hC, show starts bs bs.length 0 = F from hF] at hl1
  have key : ARet Tryd.prog 38 [.sl 1 (rowsB bs)] [] [] (.ag (match F with
      | [] => headC bs (.sr 3 1 0 1) (.sr 5 1 0 1) (.sr 7 1 0 1)
      | _ :: _ => headC bs (.sr 6 1 0 (F.length + 1)) (.sr 8 1 0 (F.length + 1)) (.sr 10 1 0 (F.length + 1)))) (match F with
      | [] => cutO0 bs cend
      | _ :: _ => cutO1 bs cend F.length (rowsI F) (unitR U) (rowsI C)) := by
    have hpa : ∀ l : List Nat, pureRows (l.map (fun (k : Nat) => [I k])) = true := pure_rowsI
    refine aret_loop2 hcf mixed (pu := noPu) (lf := 3000) (fn := Tryd.f38) (hs := hd38) (H := h38) (id := 0) (c := lp38) (B := tl38) rfl rfl rfl (Nat.le_of_ble_eq_true rfl) (by
        cases F <;> simp [AV.und, undVals, headC, undRows_pure _ _ (pure_bytes bs), cutO0, cutO1] <;> rfl) (by
        cases F with
        | nil => simp [cutO0, Ob.und, undVals, undRows, headC, AV.und, undRows_pure _ _ (pure_bytes bs)]; try rfl
        | cons x F =>
          have e1 : ∀ n, undRows n ((rowsI (x :: F)).take (F.length + 1) ++ [[I (rowsB bs).length]]) = true := fun n => undRows_pure n _ (pure_rows fun r hr => by
            rcases List.mem_append.1 hr with hr | hr
            · obtain ⟨y, _, rfl⟩ := List.mem_map.1 (List.mem_of_mem_take hr); rfl
            · have : r = [I (rowsB bs).length] := by simpa using hr
              rw [this]; rfl)
          have e2 : ∀ n, undRows n ((unitR U).take (F.length + 1) ++ [[.v (.int .i32 (-1))]]) = true := fun n => undRows_pure n _ (pure_rows fun r hr => by
            rcases List.mem_append.1 hr with hr | hr
            · obtain ⟨y, _, rfl⟩ := List.mem_map.1 (List.mem_of_mem_take hr); rfl
            · have : r = [.v (.int .i32 (-1))] := by simpa using hr
              rw [this]; rfl)
          have e3 : ∀ n, undRows n ((rowsI C).take (F.length + 1) ++ [[I cend]]) = true := fun n => undRows_pure n _ (pure_rows fun r hr => by
            rcases List.mem_append.1 hr with hr | hr
            · obtain ⟨y, _, rfl⟩ := List.mem_map.1 (List.mem_of_mem_take hr); rfl
            · have : r = [I cend] := by simpa using hr
              rw [this]; rfl)
          simp only [cutO1, List.all_cons, List.all_nil, Ob.und, List.length_cons, List.length_nil, e1, e2, e3]
          simp [undVals, undRows, headC, AV.und, undRows_pure _ _ (pure_bytes bs)]; try rfl)
      (ι := Nat × Nat × List Nat × List Int × List Nat) (fun x => cutL bs x.2.1 x.1) (fun x => cutB bs x.2.2.1 x.2.2.2.1 x.2.2.2.2)
      (fun x => x.1 ≤ bs.length + 4 ∧ x.2.1 ≤ x.1 ∧ x.2.2.1.length ≤ x.1 ∧ x.2.2.1.length = x.2.2.2.1.length ∧ x.2.2.1.length = x.2.2.2.2.length ∧ ∃ k, bs.length ≤ x.1 + k ∧ x.2.2.1 ++ starts bs k x.1 = F ∧ x.2.2.2.1 ++ us k x.1 = U ∧ x.2.2.2.2 ++ (cols k x.1 x.2.1).1 = C ∧ (cols k x.1 x.2.1).2 = cend) (fun x => bs.length + 4 - x.1) (0, 0, [], [], [])
      ⟨by simp, by simp, by simp, rfl, rfl, bs.length, by simp, hF, hU, hC, hc⟩ ?_ ?_
    · exact head_of (L' := cutL bs (0 : Nat) (0 : Nat)) (ob' := cutB bs [] [] []) (cut_head bs) rfl rfl (hren _ _ _) (by
        show [some (Ob.ren _ zeroH), some (Ob.box (renVals _ (headC bs nilS nilS nilS)))] = _
        rw [hz, hh]; rfl)
    · rintro ⟨a, col, f, u, c⟩ ⟨h1, h2, h3, h4, h5, k, h6, h7, h8, h9, h10⟩
      simp only at h1 h2 h3 h4 h5 h6 h7 h8 h9 h10 ⊢
      by_cases ha : a < bs.length
      · left
        obtain ⟨g1, g2⟩ := unit_size bs hb a ha
        obtain ⟨k, rfl⟩ : ∃ j, k = j + 1 := ⟨k - 1, by omega⟩
        rw [starts_eq, if_pos ha] at h7
        rw [hus] at h8
        rw [hcols] at h9 h10
        simp only [if_pos ha] at h8 h9 h10
        have p1 : decide ((a : Int) < (rowsB bs).length) = true := decide_eq_true (by omega)
        have p2 : dec (AtArg bs [.sl 1 (rowsB bs), I a]) = true := dec_true.2 ⟨a, ha, rfl⟩
        have p3 : dec (IntKind.i64.wrap ((col : Int) + 1) = (col + 1 : Nat)) = true := dec_true.2 ((wrap64 (by omega) (by omega)).trans (by omega))
        have p4 : dec (IntKind.i64.wrap ((a : Int) + ((unitP (bs.drop a)).2 : Nat)) = (a + (unitP (bs.drop a)).2 : Nat)) = true := dec_true.2 ((wrap64 (by omega) (by omega)).trans (by omega))
        have inv : ∀ c', c' = (if (unitP (bs.drop a)).1 = 10 then 0 else col + 1) → (fun x : Nat × Nat × List Nat × List Int × List Nat => x.1 ≤ bs.length + 4 ∧ x.2.1 ≤ x.1 ∧ x.2.2.1.length ≤ x.1 ∧ x.2.2.1.length = x.2.2.2.1.length ∧ x.2.2.1.length = x.2.2.2.2.length ∧ ∃ k, bs.length ≤ x.1 + k ∧ x.2.2.1 ++ starts bs k x.1 = F ∧ x.2.2.2.1 ++ us k x.1 = U ∧ x.2.2.2.2 ++ (cols k x.1 x.2.1).1 = C ∧ (cols k x.1 x.2.1).2 = cend) (a + (unitP (bs.drop a)).2, c', f ++ [a], u ++ [(unitP (bs.drop a)).1], c ++ [col]) := fun c' hc' => by
          refine ⟨by simp only; omega, by simp only; rw [hc']; split <;> omega, by simp; omega, by simp [h4], by simp [h5], k, by simp only; omega, by rw [← h7]; simp, by rw [← h8]; simp, ?_, ?_⟩
          · simp only; rw [hc', ← h9]; simp
          · simp only; rw [hc']; exact h10
        have sidex : ∀ (F' : List Nat) (U' : List Int) (C' : List Nat), F' ≠ [] → sideB (cutB bs F' U' C') [0, 1, 3, 5, 7] = true ∧ sideB (cutB bs F' U' C') [0, 1, 6, 8, 10] = true := fun F' U' C' h => by
          cases F' with
          | nil => exact absurd rfl h
          | cons x F' => exact ⟨rfl, rfl⟩
        have renB : ∀ (fu : Nat → Nat) (F' : List Nat) (U' : List Int) (C' : List Nat), F' ≠ [] → renO fu (cutB bs F' U' C') = [some zeroH, some (.box (headC bs (.sr (fu 2) 1 0 F'.length) (.sr (fu 3) 1 0 F'.length) (.sr (fu 4) 1 0 F'.length))), some (.row 3 1 (rowsI F')), some (.row 21 1 (unitR U')), some (.row 3 1 (rowsI C'))] := fun fu F' U' C' h => by
          cases F' with
          | nil => exact absurd rfl h
          | cons x F' =>
            show [some (Ob.ren fu zeroH), some (Ob.box (renVals fu (headC bs (.sr 2 1 0 (x :: F').length) (.sr 3 1 0 (x :: F').length) (.sr 4 1 0 (x :: F').length)))), some (Ob.row 3 1 (renRows fu (rowsI (x :: F')))), some (Ob.row 21 1 (renRows fu (unitR U'))), some (Ob.row 3 1 (renRows fu (rowsI C')))] = _
            rw [hz, hh, renRows_pure _ _ (pure_rowsI _), renRows_pure _ _ (pure_unitR _), renRows_pure _ _ (pure_rowsI _)]; simp [AV.ren]
        have hne : f ++ [a] ≠ [] := by simp
        by_cases hu : (unitP (bs.drop a)).1 = 10
        · refine ⟨(a + (unitP (bs.drop a)).2, 0, f ++ [a], u ++ [(unitP (bs.drop a)).1], c ++ [col]), inv 0 (by rw [if_pos hu]), by simp only; omega, ?_⟩
          have pu : ((unitP (bs.drop a)).1 == 10) = true := by rw [hu]; rfl
          cases f with
          | nil =>
            have hu0 : u = [] := List.eq_nil_of_length_eq_zero (by simp at h4; omega)
            have hc0 : c = [] := List.eq_nil_of_length_eq_zero (by simp at h5; omega)
            subst hu0; subst hc0
            exact step_of (L' := cutL bs (0 : Nat) (a + (unitP (bs.drop a)).2 : Nat)) (cut_0n bs col a (a + (unitP (bs.drop a)).2) 0 [] [] []) (ac p4 (ac pu (ac p3 (ac rfl (ac rfl (ac rfl (ac p2 (ac p1 rfl)))))))) (sidex _ _ _ hne).1 (hren _ _ _) (by rw [renB _ _ _ _ hne]; rfl)
          | cons x f =>
            have qf : (x :: f).length = f.length + 1 := rfl
            have q4 : u.length = f.length + 1 := by rw [← h4]; rfl
            have q5 : c.length = f.length + 1 := by rw [← h5]; rfl
            have r1 : (rowsI (x :: f)).length = f.length + 1 := by simp [rowsI]
            have r2 : (unitR u).length = f.length + 1 := by simp [unitR, q4]
            have r3 : (rowsI c).length = f.length + 1 := by simp [rowsI, q5]
            refine step_of (L' := cutL bs (0 : Nat) (a + (unitP (bs.drop a)).2 : Nat)) (cut_1n bs col a (a + (unitP (bs.drop a)).2) (x :: f).length (rowsI (x :: f)) (unitR u) (rowsI c)) (ac p4 (ac pu (ac p3 (ac ?_ (ac ?_ (ac ?_ (ac p2 (ac p1 rfl)))))))) (sidex _ _ _ hne).2 (hren _ _ _) ?_
            · exact andt (andt rfl (nle (by omega))) (andt (andt rfl (nle (by omega))) (nle (by omega)))
            · exact andt (andt rfl (nle (by omega))) (andt (andt rfl (nle (by omega))) (nle (by omega)))
            · exact andt (andt rfl (nle (by omega))) (andt (andt rfl (nle (by omega))) (nle (by omega)))
            · rw [renB _ _ _ _ hne, rowsI_app, rowsI_app, unitR_app, List.take_of_length_le (by omega), List.take_of_length_le (by omega), List.take_of_length_le (by omega)]
              simp only [List.length_append, List.length_cons, List.length_nil]; rfl
        · refine ⟨(a + (unitP (bs.drop a)).2, col + 1, f ++ [a], u ++ [(unitP (bs.drop a)).1], c ++ [col]), inv (col + 1) (by rw [if_neg hu]), by simp only; omega, ?_⟩
          have pu : (!((unitP (bs.drop a)).1 == 10)) = true := by simp [hu]
          cases f with
          | nil =>
            have hu0 : u = [] := List.eq_nil_of_length_eq_zero (by simp at h4; omega)
            have hc0 : c = [] := List.eq_nil_of_length_eq_zero (by simp at h5; omega)
            subst hu0; subst hc0
            exact step_of (L' := cutL bs (col + 1 : Nat) (a + (unitP (bs.drop a)).2 : Nat)) (cut_0s bs col a (a + (unitP (bs.drop a)).2) 0 [] [] []) (ac p4 (ac pu (ac p3 (ac rfl (ac rfl (ac rfl (ac p2 (ac p1 rfl)))))))) (sidex _ _ _ hne).1 (hren _ _ _) (by rw [renB _ _ _ _ hne]; rfl)
          | cons x f =>
            have qf : (x :: f).length = f.length + 1 := rfl
            have q4 : u.length = f.length + 1 := by rw [← h4]; rfl
            have q5 : c.length = f.length + 1 := by rw [← h5]; rfl
            have r1 : (rowsI (x :: f)).length = f.length + 1 := by simp [rowsI]
            have r2 : (unitR u).length = f.length + 1 := by simp [unitR, q4]
            have r3 : (rowsI c).length = f.length + 1 := by simp [rowsI, q5]
            refine step_of (L' := cutL bs (col + 1 : Nat) (a + (unitP (bs.drop a)).2 : Nat)) (cut_1s bs col a (a + (unitP (bs.drop a)).2) (x :: f).length (rowsI (x :: f)) (unitR u) (rowsI c)) (ac p4 (ac pu (ac p3 (ac ?_ (ac ?_ (ac ?_ (ac p2 (ac p1 rfl)))))))) (sidex _ _ _ hne).2 (hren _ _ _) ?_
            · exact andt (andt rfl (nle (by omega))) (andt (andt rfl (nle (by omega))) (nle (by omega)))
            · exact andt (andt rfl (nle (by omega))) (andt (andt rfl (nle (by omega))) (nle (by omega)))
            · exact andt (andt rfl (nle (by omega))) (andt (andt rfl (nle (by omega))) (nle (by omega)))
            · rw [renB _ _ _ _ hne, rowsI_app, rowsI_app, unitR_app, List.take_of_length_le (by omega), List.take_of_length_le (by omega), List.take_of_length_le (by omega)]
              simp only [List.length_append, List.length_cons, List.length_nil]; rfl
      · right
        have z1 : f = F ∧ u = U ∧ c = C ∧ col = cend := by
          cases k with
          | zero => rw [hus] at h8; rw [hcols] at h9 h10; simp only [starts, List.append_nil] at h7 h8 h9 h10; exact ⟨h7, h8, h9, h10⟩
          | succ k => rw [hus] at h8; rw [hcols] at h9 h10; rw [starts_eq] at h7; simp only [if_neg ha, List.append_nil] at h7 h8 h9 h10; exact ⟨h7, h8, h9, h10⟩
        obtain ⟨rfl, rfl, rfl, rfl⟩ := z1
        have px : (!decide ((a : Int) < (rowsB bs).length)) = true := nd (by omega)
        cases f with
        | nil => exact last_of (cut_l0 bs col a) (ac rfl (ac rfl (ac rfl (ac px rfl)))) rfl
        | cons x f =>
          have qf : (x :: f).length = f.length + 1 := rfl
          have q4 : u.length = f.length + 1 := by rw [← h4]; rfl
          have q5 : c.length = f.length + 1 := by rw [← h5]; rfl
          have r1 : (rowsI (x :: f)).length = f.length + 1 := by simp [rowsI]
          have r2 : (unitR u).length = f.length + 1 := by simp [unitR, q4]
          have r3 : (rowsI c).length = f.length + 1 := by simp [rowsI, q5]
          refine last_of (cut_l1 bs col a (x :: f).length (rowsI (x :: f)) (unitR u) (rowsI c)) (ac ?_ (ac ?_ (ac ?_ (ac px rfl)))) rfl
          · exact andt (andt rfl (nle (by omega))) (andt (andt rfl (nle (by omega))) (nle (by omega)))
          · exact andt (andt rfl (nle (by omega))) (andt (andt rfl (nle (by omega))) (nle (by omega)))
          · exact andt (andt rfl (nle (by omega))) (andt (andt rfl (nle (by omega))) (nle (by omega)))
  refine ⟨U ++ [-1], C ++ [cend], ?_⟩
  cases F with
  | nil =>
    have hu0 : U = [] := List.eq_nil_of_length_eq_zero (by simp at hl1; omega)
    have hc0 : C = [] := List.eq_nil_of_length_eq_zero (by simp at hl1; omega)
    subst hu0; subst hc0
    exact cut_fin (o1 := 3) (o2 := 5) (o3 := 7) (by decide) key (by rw [← hlen]; rfl) rfl rfl rfl rfl rfl
  | cons x F =>
    refine cut_fin (o1 := 6) (o2 := 8) (o3 := 10) (by decide) key ?_ ?_ ?_ (by simp) (by simp; simp at hl1; omega) (by simp; simp at hl1; omega)
    · show some (Ob.row 3 1 ((rowsI (x :: F)).take (F.length + 1) ++ [[I (rowsB bs).length]])) = _
      rw [List.take_of_length_le (by simp [rowsI]), hlen, ← rowsI_app]
    · show some (Ob.row 21 1 ((unitR U).take (F.length + 1) ++ [[.v (.int .i32 (-1))]])) = _
      rw [List.take_of_length_le (by simp [unitR]; simp at hl1; omega), ← unitR_app]
    · show some (Ob.row 3 1 ((rowsI C).take (F.length + 1) ++ [[I cend]])) = _
      rw [List.take_of_length_le (by simp [rowsI]; simp at hl1; omega), ← rowsI_app]
end Go.Proofs.YtifnhnkogcgnaaaDoor
namespace Go.Proofs.YtifnhnkogcgnaaaDoor
open Go.Am
noncomputable def hd39 : List Code := [sq1 (bodyOf 39)]
noncomputable def h39 : Code := sq1 (sq1 (sq2 (bodyOf 39)))
noncomputable def lp39 : Code := inn (sq2 (sq1 (sq2 (bodyOf 39))))
noncomputable def tl39 : Code := sq2 (sq2 (bodyOf 39))
def idxL (x i : Int) : Am.Loc := [(1, I x), (2, .pt 0 0), (5, I i)]
theorem idx_step (bs : List Nat) (F u c : List (List AV)) (x : Int) (z q : Nat) : outR [1, 2, 5] [0] (runCode Tryd.prog 21 base noPu 3000 lp39 (triM (idxL x z)) (triO [.box (headC bs (.sl 1 F) (.sl 1 u) (.sl 1 c))]) 1 ⟨1, [.b true, .row [I q], .b false, .int (z + 1 : Nat), .b true], []⟩) = some (.normal, [some (I x), some (.pt 0 0), some (I (z + 1 : Nat))], [some (.box (headC bs (.sl 1 F) (.sl 1 u) (.sl 1 c)))], 1, [dec (IntKind.i64.wrap ((z : Int) + 1) = (z + 1 : Nat)), !((q : Int) == x), true && dec (F[z]? = some [I q]), decide ((z : Int) < F.length)]) := by kernel_rfl
theorem idx_hit (bs : List Nat) (F u c : List (List AV)) (x : Int) (z q : Nat) : lastC Tryd.prog [.tmp 4] 0 (lastR Tryd.prog 21 base noPu 3000 0 tl39 (runCode Tryd.prog 21 base noPu 3000 lp39 (triM (idxL x z)) (triO [.box (headC bs (.sl 1 F) (.sl 1 u) (.sl 1 c))]) 1 ⟨1, [.b true, .row [I q], .b true, .b true], []⟩)) = some (I z, [], [(q : Int) == x, true && dec (F[z]? = some [I q]), decide ((z : Int) < F.length)]) := by kernel_rfl
theorem idx_end (bs : List Nat) (F u c : List (List AV)) (x : Int) (z : Nat) : lastC Tryd.prog [.tmp 4] 0 (lastR Tryd.prog 21 base noPu 3000 0 tl39 (runCode Tryd.prog 21 base noPu 3000 lp39 (triM (idxL x z)) (triO [.box (headC bs (.sl 1 F) (.sl 1 u) (.sl 1 c))]) 1 ⟨1, [.b false, .b true], []⟩)) = some (I (-1), [], [!decide ((z : Int) < F.length)]) := by kernel_rfl
theorem idx_head (bs : List Nat) (F u c : List (List AV)) (x : Int) : outR [1, 2, 5] [0] (runL Tryd.prog 21 base noPu 3000 (hd39 ++ [h39]) (argT 0 [.ag (headC bs (.sl 1 F) (.sl 1 u) (.sl 1 c)), I x] .e) .e 0 ⟨0, [.b true], []⟩) = some (.normal, [some (I x), some (.pt 0 0), some (I 0)], [some (.box (headC bs (.sl 1 F) (.sl 1 u) (.sl 1 c)))], 1, []) := by kernel_rfl

def idxOf (x : Int) (l : List Nat) : Int := match findI x l with
  | some i => i
  | none => -1
theorem findI_at {x : Int} : ∀ {l : List Nat} {j q : Nat}, (∀ (i r : Nat), i < j → l[i]? = some r → x ≠ (r : Int)) → l[j]? = some q → x = (q : Int) → findI x l = some j
  | [], j, q, _, h, _ => by simp at h
  | r :: l, 0, q, _, h, e => by
    have : r = q := by simpa using h
    simp only [findI, if_pos (show x = (r : Int) by rw [this]; exact e)]
  | r :: l, j + 1, q, h0, h, e => by
    have h1 := h0 0 r (by omega) rfl
    simp only [findI, if_neg h1]
    rw [findI_at (j := j) (q := q) (fun i s hi hs => h0 (i + 1) s (by omega) (by simpa using hs)) (by simpa using h) e]
    rfl
theorem idx_ok (bs : List Nat) (F : List Nat) (U : List Int) (C : List Nat) (x : Int) (hF : F.length ≤ 200000) : ARet Tryd.prog 39 [.ag (headC bs (.sl 1 (rowsI F)) (.sl 1 (unitR U)) (.sl 1 (rowsI C))), I x] [] [] (I (idxOf x F)) [] := by
  have hren : ∀ f (i : Int), renL f (idxL x i) = [some (I x), some (.pt (f 0) 0), some (I i)] := fun f i => by simp [renL, idxL, AV.ren]
  have hrenO : ∀ f, renO f [.box (headC bs (.sl 1 (rowsI F)) (.sl 1 (unitR U)) (.sl 1 (rowsI C)))] = [some (.box (headC bs (.sl 1 (rowsI F)) (.sl 1 (unitR U)) (.sl 1 (rowsI C))))] := fun f => by simp [renO, Ob.ren, headC, renVals, AV.ren, renRows_pure _ _ (pure_bytes bs), renRows_pure _ _ (pure_rowsI _), renRows_pure _ _ (pure_unitR _)]
  have hFl := rowsI_len F
  refine aret_loop2 base_ok mixed (pu := noPu) (lf := 3000) (fn := Tryd.f39) (hs := hd39) (H := h39) (id := 0) (c := lp39) (B := tl39) rfl rfl rfl (Nat.le_of_ble_eq_true rfl) rfl rfl
    (ι := Nat) (fun j => idxL x j) (fun _ => [.box (headC bs (.sl 1 (rowsI F)) (.sl 1 (unitR U)) (.sl 1 (rowsI C)))]) (fun j => j ≤ F.length ∧ ∀ (i r : Nat), i < j → F[i]? = some r → x ≠ (r : Int)) (fun j => F.length - j) 0 ⟨Nat.zero_le _, fun i r h => absurd h (Nat.not_lt_zero _)⟩ ?_ ?_
  · exact head_of (L' := idxL x (0 : Nat)) (idx_head bs _ _ _ x) rfl rfl (hren _ _) (hrenO _)
  · rintro j ⟨hj, hno⟩
    by_cases hjn : j < F.length
    · have hq : F[j]? = some F[j] := List.getElem?_eq_getElem hjn
      have p1 : decide ((j : Int) < (rowsI F).length) = true := decide_eq_true (by omega)
      have p2 : (true && dec ((rowsI F)[j]? = some [I F[j]])) = true := by rw [Bool.true_and]; exact dec_true.2 (rowI_at hq)
      by_cases hx : x = (F[j] : Int)
      · right
        have : idxOf x F = (j : Int) := by unfold idxOf; rw [findI_at hno hq hx]
        rw [this]
        exact last_of (obs := []) (idx_hit bs _ _ _ x j F[j]) (ac (ybeq hx.symm) (ac p2 (ac p1 rfl))) rfl
      · left
        refine ⟨j + 1, ⟨hjn, fun i r hi hr => ?_⟩, by omega, step_of (L' := idxL x (j + 1 : Nat)) (idx_step bs _ _ _ x j F[j]) (ac (dec_true.2 ((wrap64 (by omega) (by omega)).trans (by omega))) (ac (nbeq (Ne.symm hx)) (ac p2 (ac p1 rfl)))) rfl (hren _ _) (hrenO _)⟩
        by_cases hij : i < j
        · exact hno i r hij hr
        · obtain rfl : i = j := by omega
          rw [hq] at hr; cases hr; exact hx
    · right
      have : idxOf x F = -1 := by
        unfold idxOf
        rw [findI_none fun q hqm => ?_]
        obtain ⟨i, hi, rfl⟩ := List.getElem_of_mem hqm
        exact hno i _ (by omega) (List.getElem?_eq_getElem hi)
      rw [this]
      exact last_of (obs := []) (idx_end bs _ _ _ x j) (ac (nd (by omega)) rfl) rfl
def IdxArg (bs : List Nat) (F : List Nat) (U : List Int) (C : List Nat) (args : List AV) : Prop := ∃ x : Int, args = [.ag (headC bs (.sl 1 (rowsI F)) (.sl 1 (unitR U)) (.sl 1 (rowsI C))), I x]
def idxRes (F : List Nat) : List AV → AV
  | [_, .v (.int _ x)] => I (idxOf x F)
  | _ => .any
noncomputable def callR17 (bs : List Nat) (F : List Nat) (U : List Int) (C : List Nat) : CallF := known1 38 (fun args => args = [.sl 1 (rowsB bs)]) (fun _ => .ag (headC bs (.sl 1 (rowsI F)) (.sl 1 (unitR U)) (.sl 1 (rowsI C)))) (known1 39 (IdxArg bs F U C) (idxRes F) base)
noncomputable def hd17 : List Code := [sq1 (bodyOf 17), sq1 (sq2 (bodyOf 17)), sq1 (sq2 (sq2 (bodyOf 17)))]
noncomputable def h17 : Code := sq1 (sq1 (sq2 (sq2 (sq2 (bodyOf 17)))))
noncomputable def lp17 : Code := inn (sq2 (sq1 (sq2 (sq2 (sq2 (bodyOf 17))))))
noncomputable def tl17 : Code := sq2 (sq2 (sq2 (sq2 (bodyOf 17))))
def fair2L (l : List (List AV)) (e i : Int) : Am.Loc := [(1, .sl 4 l), (5, .pt 0 0), (6, I e), (7, I i)]
theorem fr_no0 (bs F : List Nat) (U : List Int) (C : List Nat) (rows : List (List AV)) (e : Int) (z : Nat) (ty ch fr to : Int) : lastC Tryd.prog [.tmp 4] 0 (lastR Tryd.prog 66 (callR17 bs F U C) noPu 3000 0 tl17 (runCode Tryd.prog 66 (callR17 bs F U C) noPu 3000 lp17 (triM (fair2L rows e z)) (triO [.box (headC bs (.sl 1 (rowsI F)) (.sl 1 (unitR U)) (.sl 1 (rowsI C)))]) 1 ⟨1, [.b true, .row [I ty, I ch, I fr, I to], .b true, .b true], []⟩)) = some (.v (.bool false), [], [decide (ty < 1), true && dec (rows[z]? = some [I ty, I ch, I fr, I to]), decide ((z : Int) < rows.length)]) := by kernel_rfl
theorem fr_no1 (bs F : List Nat) (U : List Int) (C : List Nat) (rows : List (List AV)) (e : Int) (z : Nat) (ty ch fr to : Int) : lastC Tryd.prog [.tmp 4] 0 (lastR Tryd.prog 66 (callR17 bs F U C) noPu 3000 0 tl17 (runCode Tryd.prog 66 (callR17 bs F U C) noPu 3000 lp17 (triM (fair2L rows e z)) (triO [.box (headC bs (.sl 1 (rowsI F)) (.sl 1 (unitR U)) (.sl 1 (rowsI C)))]) 1 ⟨1, [.b true, .row [I ty, I ch, I fr, I to], .b false, .b true, .b true], []⟩)) = some (.v (.bool false), [], [decide (ty > 200), !decide (ty < 1), true && dec (rows[z]? = some [I ty, I ch, I fr, I to]), decide ((z : Int) < rows.length)]) := by kernel_rfl
theorem fr_no2 (bs F : List Nat) (U : List Int) (C : List Nat) (rows : List (List AV)) (e : Int) (z : Nat) (ty ch fr to : Int) : lastC Tryd.prog [.tmp 4] 0 (lastR Tryd.prog 66 (callR17 bs F U C) noPu 3000 0 tl17 (runCode Tryd.prog 66 (callR17 bs F U C) noPu 3000 lp17 (triM (fair2L rows e z)) (triO [.box (headC bs (.sl 1 (rowsI F)) (.sl 1 (unitR U)) (.sl 1 (rowsI C)))]) 1 ⟨1, [.b true, .row [I ty, I ch, I fr, I to], .b false, .b false, .b true, .b true], []⟩)) = some (.v (.bool false), [], [decide (ch < 0), !decide (ty > 200), !decide (ty < 1), true && dec (rows[z]? = some [I ty, I ch, I fr, I to]), decide ((z : Int) < rows.length)]) := by kernel_rfl
theorem fr_no3 (bs F : List Nat) (U : List Int) (C : List Nat) (rows : List (List AV)) (e : Int) (z : Nat) (ty ch fr to : Int) : lastC Tryd.prog [.tmp 4] 0 (lastR Tryd.prog 66 (callR17 bs F U C) noPu 3000 0 tl17 (runCode Tryd.prog 66 (callR17 bs F U C) noPu 3000 lp17 (triM (fair2L rows e z)) (triO [.box (headC bs (.sl 1 (rowsI F)) (.sl 1 (unitR U)) (.sl 1 (rowsI C)))]) 1 ⟨1, [.b true, .row [I ty, I ch, I fr, I to], .b false, .b false, .b false, .b true, .b true], []⟩)) = some (.v (.bool false), [], [decide (ch ≥ 20), !decide (ch < 0), !decide (ty > 200), !decide (ty < 1), true && dec (rows[z]? = some [I ty, I ch, I fr, I to]), decide ((z : Int) < rows.length)]) := by kernel_rfl
theorem fr_no4 (bs F : List Nat) (U : List Int) (C : List Nat) (rows : List (List AV)) (e : Int) (z : Nat) (ty ch fr to : Int) : lastC Tryd.prog [.tmp 4] 0 (lastR Tryd.prog 66 (callR17 bs F U C) noPu 3000 0 tl17 (runCode Tryd.prog 66 (callR17 bs F U C) noPu 3000 lp17 (triM (fair2L rows e z)) (triO [.box (headC bs (.sl 1 (rowsI F)) (.sl 1 (unitR U)) (.sl 1 (rowsI C)))]) 1 ⟨1, [.b true, .row [I ty, I ch, I fr, I to], .b false, .b false, .b false, .b false, .b true, .b true], []⟩)) = some (.v (.bool false), [], [decide (fr ≥ to), !decide (ch ≥ 20), !decide (ch < 0), !decide (ty > 200), !decide (ty < 1), true && dec (rows[z]? = some [I ty, I ch, I fr, I to]), decide ((z : Int) < rows.length)]) := by kernel_rfl
theorem fr_no5 (bs F : List Nat) (U : List Int) (C : List Nat) (rows : List (List AV)) (e : Int) (z : Nat) (ty ch fr to : Int) : lastC Tryd.prog [.tmp 4] 0 (lastR Tryd.prog 66 (callR17 bs F U C) noPu 3000 0 tl17 (runCode Tryd.prog 66 (callR17 bs F U C) noPu 3000 lp17 (triM (fair2L rows e z)) (triO [.box (headC bs (.sl 1 (rowsI F)) (.sl 1 (unitR U)) (.sl 1 (rowsI C)))]) 1 ⟨1, [.b true, .row [I ty, I ch, I fr, I to], .b false, .b false, .b false, .b false, .b false, .b true, .b true], []⟩)) = some (.v (.bool false), [], [decide (fr < e), !decide (fr ≥ to), !decide (ch ≥ 20), !decide (ch < 0), !decide (ty > 200), !decide (ty < 1), true && dec (rows[z]? = some [I ty, I ch, I fr, I to]), decide ((z : Int) < rows.length)]) := by kernel_rfl
theorem fr_no6 (bs F : List Nat) (U : List Int) (C : List Nat) (rows : List (List AV)) (e : Int) (z : Nat) (ty ch fr to : Int) : lastC Tryd.prog [.tmp 4] 0 (lastR Tryd.prog 66 (callR17 bs F U C) noPu 3000 0 tl17 (runCode Tryd.prog 66 (callR17 bs F U C) noPu 3000 lp17 (triM (fair2L rows e z)) (triO [.box (headC bs (.sl 1 (rowsI F)) (.sl 1 (unitR U)) (.sl 1 (rowsI C)))]) 1 ⟨1, [.b true, .row [I ty, I ch, I fr, I to], .b false, .b false, .b false, .b false, .b false, .b false, .b true, .b true], []⟩)) = some (.v (.bool false), [], [decide (idxOf fr F < 0), dec (IdxArg bs F U C [.ag (headC bs (.sl 1 (rowsI F)) (.sl 1 (unitR U)) (.sl 1 (rowsI C))), I fr]), !decide (fr < e), !decide (fr ≥ to), !decide (ch ≥ 20), !decide (ch < 0), !decide (ty > 200), !decide (ty < 1), true && dec (rows[z]? = some [I ty, I ch, I fr, I to]), decide ((z : Int) < rows.length)]) := by kernel_rfl
theorem fr_no7 (bs F : List Nat) (U : List Int) (C : List Nat) (rows : List (List AV)) (e : Int) (z : Nat) (ty ch fr to : Int) : lastC Tryd.prog [.tmp 4] 0 (lastR Tryd.prog 66 (callR17 bs F U C) noPu 3000 0 tl17 (runCode Tryd.prog 66 (callR17 bs F U C) noPu 3000 lp17 (triM (fair2L rows e z)) (triO [.box (headC bs (.sl 1 (rowsI F)) (.sl 1 (unitR U)) (.sl 1 (rowsI C)))]) 1 ⟨1, [.b true, .row [I ty, I ch, I fr, I to], .b false, .b false, .b false, .b false, .b false, .b false, .b false, .b true, .b true], []⟩)) = some (.v (.bool false), [], [decide (idxOf to F < 0), dec (IdxArg bs F U C [.ag (headC bs (.sl 1 (rowsI F)) (.sl 1 (unitR U)) (.sl 1 (rowsI C))), I to]), !decide (idxOf fr F < 0), dec (IdxArg bs F U C [.ag (headC bs (.sl 1 (rowsI F)) (.sl 1 (unitR U)) (.sl 1 (rowsI C))), I fr]), !decide (fr < e), !decide (fr ≥ to), !decide (ch ≥ 20), !decide (ch < 0), !decide (ty > 200), !decide (ty < 1), true && dec (rows[z]? = some [I ty, I ch, I fr, I to]), decide ((z : Int) < rows.length)]) := by kernel_rfl
theorem fr_step (bs F : List Nat) (U : List Int) (C : List Nat) (rows : List (List AV)) (e : Int) (z : Nat) (ty ch fr to : Int) : outR [1, 5, 6, 7] [0] (runCode Tryd.prog 66 (callR17 bs F U C) noPu 3000 lp17 (triM (fair2L rows e z)) (triO [.box (headC bs (.sl 1 (rowsI F)) (.sl 1 (unitR U)) (.sl 1 (rowsI C)))]) 1 ⟨1, [.b true, .row [I ty, I ch, I fr, I to], .b false, .b false, .b false, .b false, .b false, .b false, .b false, .b false, .int (z + 1 : Nat), .b true], []⟩) = some (.normal, [some (.sl 4 rows), some (.pt 0 0), some (I to), some (I (z + 1 : Nat))], [some (.box (headC bs (.sl 1 (rowsI F)) (.sl 1 (unitR U)) (.sl 1 (rowsI C))))], 2, [dec (IntKind.i64.wrap ((z : Int) + 1) = (z + 1 : Nat)), !decide (idxOf to F < 0), dec (IdxArg bs F U C [.ag (headC bs (.sl 1 (rowsI F)) (.sl 1 (unitR U)) (.sl 1 (rowsI C))), I to]), !decide (idxOf fr F < 0), dec (IdxArg bs F U C [.ag (headC bs (.sl 1 (rowsI F)) (.sl 1 (unitR U)) (.sl 1 (rowsI C))), I fr]), !decide (fr < e), !decide (fr ≥ to), !decide (ch ≥ 20), !decide (ch < 0), !decide (ty > 200), !decide (ty < 1), true && dec (rows[z]? = some [I ty, I ch, I fr, I to]), decide ((z : Int) < rows.length)]) := by kernel_rfl
theorem fr_last (bs F : List Nat) (U : List Int) (C : List Nat) (rows : List (List AV)) (e : Int) (z : Nat) : lastC Tryd.prog [.tmp 4] 0 (lastR Tryd.prog 66 (callR17 bs F U C) noPu 3000 0 tl17 (runCode Tryd.prog 66 (callR17 bs F U C) noPu 3000 lp17 (triM (fair2L rows e z)) (triO [.box (headC bs (.sl 1 (rowsI F)) (.sl 1 (unitR U)) (.sl 1 (rowsI C)))]) 1 ⟨1, [.b false, .b true], []⟩)) = some (.v (.bool true), [], [!decide ((z : Int) < rows.length)]) := by kernel_rfl
theorem fr_head (bs F : List Nat) (U : List Int) (C : List Nat) (rows : List (List AV)) : outR [1, 5, 6, 7] [0] (runL Tryd.prog 66 (callR17 bs F U C) noPu 3000 (hd17 ++ [h17]) (argT 0 [.sl 1 (rowsB bs), .sl 4 rows] .e) .e 0 ⟨0, [.b true], []⟩) = some (.normal, [some (.sl 4 rows), some (.pt 0 0), some (I 0), some (I 0)], [some (.box (headC bs (.sl 1 (rowsI F)) (.sl 1 (unitR U)) (.sl 1 (rowsI C))))], 1, [dec ([AV.sl 1 (rowsB bs)] = [.sl 1 (rowsB bs)])]) := by kernel_rfl

theorem idx_neg {x : Int} {l : List Nat} : idxOf x l < 0 ↔ findI x l = none := by
  unfold idxOf
  cases findI x l with
  | none => simp
  | some i => simp
theorem find_mem {x : Int} {l : List Nat} : findI x l ≠ none ↔ ∃ q ∈ l, x = (q : Int) := by
  constructor
  · intro h
    cases hf : findI x l with
    | none => exact absurd hf h
    | some i => exact (findI_some hf).2
  · rintro ⟨q, hq, rfl⟩ h
    have : ∀ l : List Nat, q ∈ l → findI (q : Int) l ≠ none := by
      intro l
      induction l with
      | nil => intro h; cases h
      | cons r l ih =>
        intro h
        simp only [findI]
        by_cases e : (q : Int) = r
        · rw [if_pos e]; simp
        · rw [if_neg e]
          rcases List.mem_cons.1 h with rfl | h
          · exact absurd rfl e
          · have := ih h
            cases hf : findI (q : Int) l with
            | none => exact absurd hf this
            | some i => simp
    exact this l hq h
theorem okAt_idx (bs : List Nat) (x : Int) : okAt bs x ↔ ¬ idxOf x (startsOf bs ++ [bs.length]) < 0 := by
  rw [idx_neg]
  show findI x (bs.length :: startsOf bs) ≠ none ↔ findI x (startsOf bs ++ [bs.length]) ≠ none
  rw [find_mem, find_mem]
  constructor
  · rintro ⟨q, hq, e⟩
    exact ⟨q, by rcases List.mem_cons.1 hq with rfl | h <;> simp_all, e⟩
  · rintro ⟨q, hq, e⟩
    exact ⟨q, by rcases List.mem_append.1 hq with h | h <;> simp_all, e⟩
theorem starts_len (bs : List Nat) (hb : ∀ b ∈ bs, b < 256) : ∀ (k a : Nat), (starts bs k a).length ≤ bs.length - a
  | 0, a => by simp [starts]
  | k + 1, a => by
    rw [starts_eq]
    by_cases ha : a < bs.length
    · rw [if_pos ha]
      have h1 := starts_len bs hb k (a + (unitP (bs.drop a)).2)
      have h2 := unit_size bs hb a ha
      simp only [List.length_cons]
      omega
    · rw [if_neg ha]; simp
theorem refFair_ok (bs : List Nat) (hb : ∀ b ∈ bs, b < 256) (hl : bs.length ≤ 100000) (l : List Tok) (hn : l.length ≤ 100000) (r : Bool) (hr : r = dec (FairF bs 0 l)) : ARet Tryd.prog 17 [.sl 1 (rowsB bs), .sl 4 (toks l)] [] [] (.v (.bool r)) [] := by
  obtain ⟨U, C, hcut⟩ := cut_ok bs hb hl
  generalize hF : startsOf bs ++ [bs.length] = F at hcut
  have hFl : F.length ≤ 200000 := by
    rw [← hF]
    have := starts_len bs hb bs.length 0
    simp only [List.length_append, List.length_cons, List.length_nil]
    show (starts bs bs.length 0).length + 1 ≤ _
    omega
  have hcf : CallOk Tryd.prog (callR17 bs F U C) := known1_ok (fun args h => by subst h; exact ⟨hcut, pure_arg bs, by simp [AV.pure, pureVals, headC, pure_bytes, pure_rowsI, pure_unitR]⟩) (known1_ok (fun args h => by
    obtain ⟨x, rfl⟩ := h
    exact ⟨idx_ok bs F U C x hFl, by simp [AV.pure, pureVals, headC, pure_bytes, pure_rowsI, pure_unitR], rfl⟩) base_ok)
  have hok : ∀ x, okAt bs x ↔ ¬ idxOf x F < 0 := fun x => by rw [okAt_idx, hF]
  have hlen : (toks l).length = l.length := toks_len l
  have hren : ∀ f (e i : Int), renL f (fair2L (toks l) e i) = [some (.sl 4 (toks l)), some (.pt (f 0) 0), some (I e), some (I i)] := fun f e i => by simp [renL, fair2L, AV.ren, renRows_pure _ _ (pure_toks l)]
  have hrenO : ∀ f, renO f [.box (headC bs (.sl 1 (rowsI F)) (.sl 1 (unitR U)) (.sl 1 (rowsI C)))] = [some (.box (headC bs (.sl 1 (rowsI F)) (.sl 1 (unitR U)) (.sl 1 (rowsI C))))] := fun f => by simp [renO, Ob.ren, headC, renVals, AV.ren, renRows_pure _ _ (pure_bytes bs), renRows_pure _ _ (pure_rowsI _), renRows_pure _ _ (pure_unitR _)]
  refine aret_loop2 hcf mixed (pu := noPu) (lf := 3000) (fn := Tryd.f17) (hs := hd17) (H := h17) (id := 0) (c := lp17) (B := tl17) rfl rfl rfl (Nat.le_of_ble_eq_true rfl) rfl rfl
    (ι := Nat × Int) (fun x => fair2L (toks l) x.2 x.1) (fun _ => [.box (headC bs (.sl 1 (rowsI F)) (.sl 1 (unitR U)) (.sl 1 (rowsI C)))])
    (fun x => x.1 ≤ l.length ∧ (FairF bs x.2 (l.drop x.1) ↔ FairF bs 0 l)) (fun x => l.length - x.1) (0, 0)
    ⟨by simp, by simp⟩ ?_ ?_
  · exact head_of (L' := fair2L (toks l) (0 : Nat) (0 : Nat)) (fr_head bs F U C (toks l)) (ac (dec_true.2 rfl) rfl) rfl (hren _ _ _) (hrenO _)
  · rintro ⟨i, e⟩ ⟨h1, h2⟩
    simp only at h1 h2 ⊢
    by_cases hi : i < l.length
    · have hd := List.drop_eq_getElem_cons hi
      rw [hd] at h2
      simp only [FairF] at h2
      have hrow := tokRow_at (List.getElem?_eq_getElem hi)
      generalize l[i] = t at h2 hrow
      have p1 : decide ((i : Int) < (toks l).length) = true := decide_eq_true (by omega)
      have p2 : (true && dec ((toks l)[i]? = some [I t.ty, I t.ch, I t.fr, I t.to])) = true := by rw [Bool.true_and]; exact dec_true.2 hrow
      have pi : ∀ x : Int, dec (IdxArg bs F U C [.ag (headC bs (.sl 1 (rowsI F)) (.sl 1 (unitR U)) (.sl 1 (rowsI C))), I x]) = true := fun x => dec_true.2 ⟨x, rfl⟩
      have no : ¬ FairT bs e t → r = false := fun hf => by
        rw [hr]
        cases hdec : dec (FairF bs 0 l) with
        | false => rfl
        | true => exact absurd (h2.2 (dec_true.1 hdec)).1 hf
      by_cases q0 : t.ty < 1
      · right; rw [no (fun hf => hf.1 q0)]; exact last_of (obs := []) (fr_no0 bs F U C (toks l) e i t.ty t.ch t.fr t.to) (ac (decide_eq_true q0) (ac p2 (ac p1 rfl))) rfl
      by_cases q1 : t.ty > 200
      · right; rw [no (fun hf => hf.2.1 q1)]; exact last_of (obs := []) (fr_no1 bs F U C (toks l) e i t.ty t.ch t.fr t.to) (ac (decide_eq_true q1) (ac (nd q0) (ac p2 (ac p1 rfl)))) rfl
      by_cases q2 : t.ch < 0
      · right; rw [no (fun hf => hf.2.2.1 q2)]; exact last_of (obs := []) (fr_no2 bs F U C (toks l) e i t.ty t.ch t.fr t.to) (ac (decide_eq_true q2) (ac (nd q1) (ac (nd q0) (ac p2 (ac p1 rfl))))) rfl
      by_cases q3 : t.ch ≥ 20
      · right; rw [no (fun hf => hf.2.2.2.1 q3)]; exact last_of (obs := []) (fr_no3 bs F U C (toks l) e i t.ty t.ch t.fr t.to) (ac (decide_eq_true q3) (ac (nd q2) (ac (nd q1) (ac (nd q0) (ac p2 (ac p1 rfl)))))) rfl
      by_cases q4 : t.fr ≥ t.to
      · right; rw [no (fun hf => hf.2.2.2.2.2.1 q4)]; exact last_of (obs := []) (fr_no4 bs F U C (toks l) e i t.ty t.ch t.fr t.to) (ac (decide_eq_true q4) (ac (nd q3) (ac (nd q2) (ac (nd q1) (ac (nd q0) (ac p2 (ac p1 rfl))))))) rfl
      by_cases q5 : t.fr < e
      · right; rw [no (fun hf => hf.2.2.2.2.1 q5)]; exact last_of (obs := []) (fr_no5 bs F U C (toks l) e i t.ty t.ch t.fr t.to) (ac (decide_eq_true q5) (ac (nd q4) (ac (nd q3) (ac (nd q2) (ac (nd q1) (ac (nd q0) (ac p2 (ac p1 rfl)))))))) rfl
      by_cases q6 : idxOf t.fr F < 0
      · right; rw [no (fun hf => (hok _).1 hf.2.2.2.2.2.2.1 q6)]; exact last_of (obs := []) (fr_no6 bs F U C (toks l) e i t.ty t.ch t.fr t.to) (ac (decide_eq_true q6) (ac (pi _) (ac (nd q5) (ac (nd q4) (ac (nd q3) (ac (nd q2) (ac (nd q1) (ac (nd q0) (ac p2 (ac p1 rfl)))))))))) rfl
      by_cases q7 : idxOf t.to F < 0
      · right; rw [no (fun hf => (hok _).1 hf.2.2.2.2.2.2.2 q7)]; exact last_of (obs := []) (fr_no7 bs F U C (toks l) e i t.ty t.ch t.fr t.to) (ac (decide_eq_true q7) (ac (pi _) (ac (nd q6) (ac (pi _) (ac (nd q5) (ac (nd q4) (ac (nd q3) (ac (nd q2) (ac (nd q1) (ac (nd q0) (ac p2 (ac p1 rfl)))))))))))) rfl
      left
      refine ⟨(i + 1, t.to), ⟨by simp only; omega, ?_⟩, by simp only; omega, ?_⟩
      · rw [← h2]; exact ⟨fun h => ⟨⟨q0, q1, q2, q3, q5, q4, (hok _).2 q6, (hok _).2 q7⟩, h⟩, fun h => h.2⟩
      · exact step_of (L' := fair2L (toks l) t.to (i + 1 : Nat)) (fr_step bs F U C (toks l) e i t.ty t.ch t.fr t.to) (ac (dec_true.2 ((wrap64 (by omega) (by omega)).trans (by omega))) (ac (nd q7) (ac (pi _) (ac (nd q6) (ac (pi _) (ac (nd q5) (ac (nd q4) (ac (nd q3) (ac (nd q2) (ac (nd q1) (ac (nd q0) (ac p2 (ac p1 rfl))))))))))))) rfl (hren _ _ _) (hrenO _)
    · right
      have hz : l.drop i = [] := List.drop_eq_nil_of_le (by omega)
      rw [hz] at h2
      have : r = true := by rw [hr]; exact dec_true.2 (h2.1 trivial)
      rw [this]
      exact last_of (obs := []) (fr_last bs F U C (toks l) e i) (ac (nd (by omega)) rfl) rfl
end Go.Proofs.YtifnhnkogcgnaaaDoor
namespace Go.Proofs.YtifnhnkogcgnaaaDoor
open Go.Am
noncomputable def hd49 : List Code := [sq1 (bodyOf 49), sq1 (sq2 (bodyOf 49)), sq1 (sq2 (sq2 (bodyOf 49)))]
noncomputable def lp49 : Code := inn (sq1 (sq2 (sq2 (sq2 (bodyOf 49)))))
noncomputable def tl49 : Code := sq2 (sq2 (sq2 (sq2 (bodyOf 49))))
def unitsL (bs : List Nat) (s : AV) (a : Int) : Am.Loc := [(0, .sl 1 (rowsB bs)), (3, s), (4, I a)]
def uRow (bs : List Nat) (a : Nat) : List AV := [I a, .v (.int .i32 (unitP (bs.drop a)).1), I (unitP (bs.drop a)).2]
noncomputable def callR40 (bs : List Nat) (q : List (List AV)) : CallF := known1 49 (fun args => args = [.sl 1 (rowsB bs)]) (fun _ => .sl 3 q) base
noncomputable def hd40 : List Code := [sq1 (bodyOf 40), sq1 (sq2 (bodyOf 40)), sq1 (sq2 (sq2 (bodyOf 40))), sq1 (sq2 (sq2 (sq2 (bodyOf 40))))]
noncomputable def h40 : Code := sq1 (sq1 (sq2 (sq2 (sq2 (sq2 (bodyOf 40))))))
noncomputable def lp40 : Code := inn (sq2 (sq1 (sq2 (sq2 (sq2 (sq2 (bodyOf 40)))))))
noncomputable def tl40 : Code := sq2 (sq2 (sq2 (sq2 (sq2 (bodyOf 40)))))
def rplL (q : List (List AV)) (t l c i : Int) : Am.Loc := [(1, I t), (6, I l), (7, I c), (8, .sl 3 q), (9, I i)]
theorem units_s0 (bs : List Nat) (a a' k : Nat) (q : List (List AV)) : outR [0, 3, 4] [1] (runCode Tryd.prog 28 (callR38 bs) noPu 3000 lp49 (triM (unitsL bs nilS a)) (triO []) 0 ⟨0, [.b true, .int (a' : Nat), .b true], []⟩) = some (.normal, [some (.sl 1 (rowsB bs)), some (.sr 1 3 0 1), some (I (a' : Nat))], [some (.row 95 3 ([[I a, .v (.int .i32 (unitP (bs.drop (a : Int).toNat)).1), I ((unitP (bs.drop (a : Int).toNat)).2 : Nat)]]))], 2, [dec (IntKind.i64.wrap ((a : Int) + ((unitP (bs.drop (a : Int).toNat)).2 : Nat)) = (a' : Nat)), true, dec (AtArg bs [.sl 1 (rowsB bs), I a]), decide ((a : Int) < (rowsB bs).length)]) := by kernel_rfl
theorem units_s1 (bs : List Nat) (a a' k : Nat) (q : List (List AV)) : outR [0, 3, 4] [2] (runCode Tryd.prog 28 (callR38 bs) noPu 3000 lp49 (triM (unitsL bs (.sr 0 3 0 k) a)) (triO [.row 95 3 q]) 1 ⟨1, [.b true, .int (a' : Nat), .b true], []⟩) = some (.normal, [some (.sl 1 (rowsB bs)), some (.sr 2 3 0 (k + 1)), some (I (a' : Nat))], [some (.row 95 3 (q.take k ++ [[I a, .v (.int .i32 (unitP (bs.drop (a : Int).toNat)).1), I ((unitP (bs.drop (a : Int).toNat)).2 : Nat)]]))], 3, [dec (IntKind.i64.wrap ((a : Int) + ((unitP (bs.drop (a : Int).toNat)).2 : Nat)) = (a' : Nat)), (true && Nat.ble k q.length) && (true && Nat.ble ((k + 1) * 24) 140737488355328 && Nat.ble (k + 1) 9223372036854775807), dec (AtArg bs [.sl 1 (rowsB bs), I a]), decide ((a : Int) < (rowsB bs).length)]) := by kernel_rfl
theorem units_l0 (bs : List Nat) (a : Nat) : lastC Tryd.prog [.tmp 2] 0 (lastR Tryd.prog 28 (callR38 bs) noPu 3000 0 tl49 (runCode Tryd.prog 28 (callR38 bs) noPu 3000 lp49 (triM (unitsL bs nilS a)) (triO []) 0 ⟨0, [.b false, .b true], []⟩)) = some (nilS, [], [!decide ((a : Int) < (rowsB bs).length)]) := by kernel_rfl
theorem units_l1 (bs : List Nat) (a k : Nat) (q : List (List AV)) : lastC Tryd.prog [.tmp 2] 1 (lastR Tryd.prog 28 (callR38 bs) noPu 3000 0 tl49 (runCode Tryd.prog 28 (callR38 bs) noPu 3000 lp49 (triM (unitsL bs (.sr 0 3 0 k) a)) (triO [.row 95 3 q]) 1 ⟨1, [.b false, .b true], []⟩)) = some (.sr 0 3 0 k, [some (.row 95 3 q)], [!decide ((a : Int) < (rowsB bs).length)]) := by kernel_rfl
theorem units_head (bs : List Nat) : outR [0, 3, 4] [] (runL Tryd.prog 28 (callR38 bs) noPu 3000 hd49 (argT 0 [.sl 1 (rowsB bs)] .e) .e 0 ⟨0, [.b true], []⟩) = some (.normal, [some (.sl 1 (rowsB bs)), some nilS, some (I 0)], [], 0, []) := by kernel_rfl

def uRows (bs : List Nat) (l : List Nat) : List (List AV) := l.map (uRow bs)
theorem pure_uRows (bs : List Nat) (l : List Nat) : pureRows (uRows bs l) = true := pure_rows fun r hr => by
  obtain ⟨j, _, rfl⟩ := List.mem_map.1 hr
  rfl
theorem uRows_len (bs : List Nat) (l : List Nat) : (uRows bs l).length = l.length := by simp [uRows]
def slotU : List Nat → AV
  | [] => nilS
  | a :: l => .sr 0 3 0 (a :: l).length
def obU (bs : List Nat) : List Nat → List Ob
  | [] => []
  | a :: l => [.row 95 3 (uRows bs (a :: l))]
theorem units_raw (bs : List Nat) (hb : ∀ b ∈ bs, b < 256) (hl : bs.length ≤ 100000) (R : List Nat) (hR : R = startsOf bs) : ARet Tryd.prog 49 [.sl 1 (rowsB bs)] [] [] (slotU R) (obU bs R) := by
  have hlen := rowsB_len bs
  have hcf : CallOk Tryd.prog (callR38 bs) := known1_ok (at_known bs hb hl) base_ok
  have hren : ∀ f s i, renL f (unitsL bs s i) = [some (.sl 1 (rowsB bs)), some (s.ren f), some (I i)] := fun f s i => by simp [renL, unitsL, AV.ren, renRows_pure _ _ (pure_bytes bs)]
  have hrenO : ∀ f q, renO f [.row 95 3 (uRows bs q)] = [some (.row 95 3 (uRows bs q))] := fun f q => by simp [renO, Ob.ren, renRows_pure _ _ (pure_uRows bs q)]
  refine aret_loop hcf mixed (pu := noPu) (lf := 3000) (fn := Tryd.f49) (hs := hd49) (id := 0) (c := lp49) (B := tl49) rfl rfl rfl (Nat.le_of_ble_eq_true rfl) (by cases R <;> rfl) (by
      cases R with
      | nil => rfl
      | cons a R => simp [obU, Ob.und, undRows_pure 1 _ (pure_uRows bs (a :: R))])
    (ι := Nat × List Nat) (fun x => unitsL bs (slotU x.2) x.1) (fun x => obU bs x.2)
    (fun x => x.1 ≤ bs.length + 4 ∧ x.2.length ≤ x.1 ∧ ∃ k, bs.length ≤ x.1 + k ∧ x.2 ++ starts bs k x.1 = R) (fun x => bs.length + 4 - x.1) (0, [])
    ⟨by simp, by simp, bs.length, by simp, by rw [hR]; rfl⟩ ?_ ?_
  · exact head_of (L' := unitsL bs (slotU []) (0 : Nat)) (units_head bs) rfl rfl (by rw [hren]; rfl) rfl
  · rintro ⟨a, acc⟩ ⟨h1, h2, k, h5, h6⟩
    simp only at h1 h2 h5 h6 ⊢
    by_cases ha : a < bs.length
    · left
      obtain ⟨g1, g2⟩ := unit_size bs hb a ha
      obtain ⟨k, rfl⟩ : ∃ j, k = j + 1 := ⟨k - 1, by omega⟩
      rw [starts_eq, if_pos ha] at h6
      have p1 : decide ((a : Int) < (rowsB bs).length) = true := decide_eq_true (by omega)
      have p2 : dec (AtArg bs [.sl 1 (rowsB bs), I a]) = true := dec_true.2 ⟨a, ha, rfl⟩
      have p3 : dec (IntKind.i64.wrap ((a : Int) + ((unitP (bs.drop a)).2 : Nat)) = (a + (unitP (bs.drop a)).2 : Nat)) = true := dec_true.2 ((wrap64 (by omega) (by omega)).trans (by omega))
      refine ⟨(a + (unitP (bs.drop a)).2, acc ++ [a]), ⟨by simp only; omega, by simp; omega, k, by simp only; omega, by rw [← h6]; simp⟩, by simp only; omega, ?_⟩
      cases acc with
      | nil => exact step_of (L' := unitsL bs (slotU [a]) (a + (unitP (bs.drop a)).2 : Nat)) (units_s0 bs a (a + (unitP (bs.drop a)).2) 0 []) (ac p3 (ac rfl (ac p2 (ac p1 rfl)))) rfl (by rw [hren]; rfl) (hrenO _ [a])
      | cons x acc =>
        have r1 := uRows_len bs (x :: acc)
        have r2 : (x :: acc).length = acc.length + 1 := rfl
        refine step_of (L' := unitsL bs (slotU (x :: acc ++ [a])) (a + (unitP (bs.drop a)).2 : Nat)) (units_s1 bs a (a + (unitP (bs.drop a)).2) (x :: acc).length (uRows bs (x :: acc))) (ac p3 (ac (andt (andt rfl (nle (by omega))) (andt (andt rfl (nle (by omega))) (nle (by omega)))) (ac p2 (ac p1 rfl)))) rfl ?_ ?_
        · rw [hren]; simp [slotU, AV.ren, fsel]
        · show renO _ [Ob.row 95 3 (uRows bs (x :: acc ++ [a]))] = _
          rw [hrenO, List.take_of_length_le (by omega)]
          simp [uRows, uRow]
    · right
      have h7 : R = acc := by
        rw [← h6]
        cases k with
        | zero => simp [starts]
        | succ k => rw [starts_eq, if_neg ha, List.append_nil]
      rw [h7]
      have px : (!decide ((a : Int) < (rowsB bs).length)) = true := nd (by omega)
      cases acc with
      | nil => exact last_of (units_l0 bs a) (ac px rfl) rfl
      | cons x acc => exact last_of (units_l1 bs a _ _) (ac px rfl) rfl
theorem units_ok (bs : List Nat) (hb : ∀ b ∈ bs, b < 256) (hl : bs.length ≤ 100000) : ARet Tryd.prog 49 [.sl 1 (rowsB bs)] [] [] (.sl 3 (uRows bs (startsOf bs))) [] := by
  have h := units_raw bs hb hl _ rfl
  generalize startsOf bs = R at h
  cases R with
  | nil => exact aret_weak h fun m γ x hx => weak_nil x hx
  | cons a R => exact aret_slice h (o := 0) rfl (uRows_len bs _).symm (pure_uRows bs _)
theorem rpl_s (bs : List Nat) (q : List (List AV)) (t l c i a n : Nat) (u : Int) : outR [1, 6, 7, 8, 9] [] (runCode Tryd.prog 42 (callR40 bs q) noPu 3000 lp40 (triM (rplL q t l c i)) (triO []) 0 ⟨0, [.b true, .row [I a, .v (.int .i32 u), I n], .b false, .int (c + 1 : Nat), .row [I a, .v (.int .i32 u), I n], .b false, .int (i + 1 : Nat), .b true], []⟩) = some (.normal, [some (I t), some (I l), some (I (c + 1 : Nat)), some (.sl 3 q), some (I (i + 1 : Nat))], [], 0, [dec (IntKind.i64.wrap ((i : Int) + 1) = (i + 1 : Nat)), !(u == 10), true && dec (q[i]? = some [I a, .v (.int .i32 u), I n]), dec (IntKind.i64.wrap ((c : Int) + 1) = (c + 1 : Nat)), !decide ((a : Int) ≥ t), true && dec (q[i]? = some [I a, .v (.int .i32 u), I n]), decide ((i : Int) < q.length)]) := by kernel_rfl
theorem rpl_n (bs : List Nat) (q : List (List AV)) (t l c i a n : Nat) (u : Int) : outR [1, 6, 7, 8, 9] [] (runCode Tryd.prog 42 (callR40 bs q) noPu 3000 lp40 (triM (rplL q t l c i)) (triO []) 0 ⟨0, [.b true, .row [I a, .v (.int .i32 u), I n], .b false, .int (c + 1 : Nat), .row [I a, .v (.int .i32 u), I n], .b true, .int (l + 1 : Nat), .int (i + 1 : Nat), .b true], []⟩) = some (.normal, [some (I t), some (I (l + 1 : Nat)), some (I 0), some (.sl 3 q), some (I (i + 1 : Nat))], [], 0, [dec (IntKind.i64.wrap ((i : Int) + 1) = (i + 1 : Nat)), dec (IntKind.i64.wrap ((l : Int) + 1) = (l + 1 : Nat)), u == 10, true && dec (q[i]? = some [I a, .v (.int .i32 u), I n]), dec (IntKind.i64.wrap ((c : Int) + 1) = (c + 1 : Nat)), !decide ((a : Int) ≥ t), true && dec (q[i]? = some [I a, .v (.int .i32 u), I n]), decide ((i : Int) < q.length)]) := by kernel_rfl
theorem rpl_l1 (bs : List Nat) (q : List (List AV)) (t l c i a n : Nat) (u : Int) : lastC Tryd.prog [.tmp 4, .tmp 5] 0 (lastR Tryd.prog 42 (callR40 bs q) noPu 3000 0 tl40 (runCode Tryd.prog 42 (callR40 bs q) noPu 3000 lp40 (triM (rplL q t l c i)) (triO []) 0 ⟨0, [.b true, .row [I a, .v (.int .i32 u), I n], .b true, .b true], []⟩)) = some (.tu [I l, I c], [], [decide ((a : Int) ≥ t), true && dec (q[i]? = some [I a, .v (.int .i32 u), I n]), decide ((i : Int) < q.length)]) := by kernel_rfl
theorem rpl_l0 (bs : List Nat) (q : List (List AV)) (t l c i : Nat) : lastC Tryd.prog [.tmp 4, .tmp 5] 0 (lastR Tryd.prog 42 (callR40 bs q) noPu 3000 0 tl40 (runCode Tryd.prog 42 (callR40 bs q) noPu 3000 lp40 (triM (rplL q t l c i)) (triO []) 0 ⟨0, [.b false, .b true], []⟩)) = some (.tu [I l, I c], [], [!decide ((i : Int) < q.length)]) := by kernel_rfl
theorem rpl_head (bs : List Nat) (q : List (List AV)) (t : Nat) : outR [1, 6, 7, 8, 9] [] (runL Tryd.prog 42 (callR40 bs q) noPu 3000 (hd40 ++ [h40]) (argT 0 [.sl 1 (rowsB bs), I t] .e) .e 0 ⟨0, [iv t, iv t, .b true], []⟩) = some (.normal, [some (I t), some (I 1), some (I 0), some (.sl 3 q), some (I 0)], [], 0, [dec ([AV.sl 1 (rowsB bs)] = [.sl 1 (rowsB bs)]), dec (CallP Tryd.prog .min #[3, 3] 3 #[false, false] [.int .i64 t, .int .i64 (rowsB bs).length] (.int .i64 t)), dec (CallP Tryd.prog .max #[3, 3] 3 #[false, true] [.int .i64 t, .int .i64 0] (.int .i64 t))]) := by kernel_rfl

theorem placeF_eq (bs : List Nat) (t k a l c : Nat) : placeF bs t (k + 1) a l c = if a < t then (if (unitP (bs.drop a)).1 = 10 then placeF bs t k (a + (unitP (bs.drop a)).2) (l + 1) 0 else placeF bs t k (a + (unitP (bs.drop a)).2) l (c + 1)) else (l, c) := by
  simp only [placeF, (unit50 bs a).1, (unit50 bs a).2]
theorem refPlace_ok (bs : List Nat) (hb : ∀ b ∈ bs, b < 256) (hl : bs.length ≤ 100000) (t : Nat) (ht : t ≤ bs.length) : ARet Tryd.prog 40 [.sl 1 (rowsB bs), I t] [] [] (.tu [I (placeOf bs t).1, I (placeOf bs t).2]) [] := by
  have hlen := rowsB_len bs
  have hql := uRows_len bs (startsOf bs)
  have hsl : (startsOf bs).length ≤ bs.length := starts_len bs hb bs.length 0
  have hcf : CallOk Tryd.prog (callR40 bs (uRows bs (startsOf bs))) := known1_ok (fun args h => by subst h; exact ⟨units_ok bs hb hl, pure_arg bs, by simp [AV.pure, pure_uRows]⟩) base_ok
  have hren : ∀ f (t l c i : Int), renL f (rplL (uRows bs (startsOf bs)) t l c i) = [some (I t), some (I l), some (I c), some (.sl 3 (uRows bs (startsOf bs))), some (I i)] := fun f t l c i => by simp [renL, rplL, AV.ren, renRows_pure _ _ (pure_uRows bs _)]
  refine aret_loop2 hcf mixed (pu := noPu) (lf := 3000) (fn := Tryd.f40) (hs := hd40) (H := h40) (id := 0) (c := lp40) (B := tl40) rfl rfl rfl (Nat.le_of_ble_eq_true rfl) rfl rfl
    (ι := Nat × Nat × Nat) (fun x => rplL (uRows bs (startsOf bs)) t x.2.1 x.2.2 x.1) (fun _ => [])
    (fun x => x.1 ≤ (startsOf bs).length ∧ x.2.1 ≤ x.1 + 1 ∧ x.2.2 ≤ x.1 ∧ ∃ k a k', bs.length ≤ a + k ∧ (startsOf bs).drop x.1 = starts bs k a ∧ t ≤ a + k' ∧ placeF bs t k' a x.2.1 x.2.2 = placeOf bs t) (fun x => (startsOf bs).length - x.1) (0, 1, 0)
    ⟨by simp, by simp, by simp, bs.length, 0, t, by simp, rfl, by simp, rfl⟩ ?_ ?_
  · exact head_of (L' := rplL (uRows bs (startsOf bs)) t (1 : Nat) (0 : Nat) (0 : Nat)) (ob' := []) (rpl_head bs _ t) (ac (dec_true.2 rfl) (ac (dec_true.2 (minP (by omega))) (ac (dec_true.2 (maxP (by omega))) rfl))) rfl (hren _ _ _ _ _) rfl
  · rintro ⟨i, l, c⟩ ⟨h1, h2, h3, k, a, k', h4, h5, h6, h7⟩
    simp only at h1 h2 h3 h5 h7 ⊢
    have done : ¬ a < t → placeOf bs t = (l, c) := fun h => by
      rw [← h7]
      cases k' with
      | zero => rfl
      | succ k' => rw [placeF_eq, if_neg h]
    by_cases hi : i < (startsOf bs).length
    · have hd := List.drop_eq_getElem_cons hi
      rw [h5] at hd
      have hrow0 : (uRows bs (startsOf bs))[i]? = some (uRow bs (startsOf bs)[i]) := by unfold uRows; rw [List.getElem?_map, List.getElem?_eq_getElem hi]; rfl
      have hal : a < bs.length ∧ ∃ k0, k = k0 + 1 ∧ (startsOf bs)[i] = a ∧ (startsOf bs).drop (i + 1) = starts bs k0 (a + (unitP (bs.drop a)).2) := by
        cases k with
        | zero => simp [starts] at hd; omega
        | succ k0 =>
          rw [starts_eq] at hd
          by_cases ha : a < bs.length
          · rw [if_pos ha] at hd
            simp only [List.cons.injEq] at hd
            exact ⟨ha, k0, rfl, hd.1.symm, hd.2.symm⟩
          · rw [if_neg ha] at hd; cases hd
      obtain ⟨ha, k0, rfl, hai, hnext⟩ := hal
      rw [hai] at hrow0
      have hrow : (true && dec ((uRows bs (startsOf bs))[i]? = some [I a, .v (.int .i32 (unitP (bs.drop a)).1), I (unitP (bs.drop a)).2])) = true := by rw [Bool.true_and]; exact dec_true.2 hrow0
      have p1 : decide ((i : Int) < (uRows bs (startsOf bs)).length) = true := decide_eq_true (by omega)
      by_cases hat : a < t
      · left
        obtain ⟨g1, g2⟩ := unit_size bs hb a ha
        obtain ⟨k', rfl⟩ : ∃ j, k' = j + 1 := ⟨k' - 1, by omega⟩
        rw [placeF_eq, if_pos hat] at h7
        have w1 : ∀ x : Nat, x ≤ 200000 → dec (IntKind.i64.wrap ((x : Int) + 1) = (x + 1 : Nat)) = true := fun x hx => dec_true.2 ((wrap64 (by omega) (by omega)).trans (by omega))
        by_cases hu : (unitP (bs.drop a)).1 = 10
        · rw [if_pos hu] at h7
          refine ⟨(i + 1, l + 1, 0), ⟨by simp only; omega, by simp only; omega, by simp only; omega, k0, _, k', by omega, hnext, by omega, h7⟩, by simp only; omega, ?_⟩
          exact step_of (L' := rplL (uRows bs (startsOf bs)) t (l + 1 : Nat) (0 : Nat) (i + 1 : Nat)) (ob' := []) (rpl_n bs _ t l c i a (unitP (bs.drop a)).2 (unitP (bs.drop a)).1) (ac (w1 i (by omega)) (ac (w1 l (by omega)) (ac (by rw [hu]; rfl) (ac hrow (ac (w1 c (by omega)) (ac (nd (by omega)) (ac hrow (ac p1 rfl)))))))) rfl (hren _ _ _ _ _) rfl
        · rw [if_neg hu] at h7
          refine ⟨(i + 1, l, c + 1), ⟨by simp only; omega, by simp only; omega, by simp only; omega, k0, _, k', by omega, hnext, by omega, h7⟩, by simp only; omega, ?_⟩
          exact step_of (L' := rplL (uRows bs (startsOf bs)) t (l : Nat) (c + 1 : Nat) (i + 1 : Nat)) (ob' := []) (rpl_s bs _ t l c i a (unitP (bs.drop a)).2 (unitP (bs.drop a)).1) (ac (w1 i (by omega)) (ac (by simp [hu]) (ac hrow (ac (w1 c (by omega)) (ac (nd (by omega)) (ac hrow (ac p1 rfl))))))) rfl (hren _ _ _ _ _) rfl
      · right
        rw [done hat]
        exact last_of (obs := []) (rpl_l1 bs _ t l c i a (unitP (bs.drop a)).2 (unitP (bs.drop a)).1) (ac (decide_eq_true (by omega)) (ac hrow (ac p1 rfl))) rfl
    · right
      have hz : (startsOf bs).drop i = [] := List.drop_eq_nil_of_le (by omega)
      have hat : ¬ a < t := by
        intro hat
        rw [hz] at h5
        cases k with
        | zero => omega
        | succ k => rw [starts_eq, if_pos (by omega)] at h5; cases h5
      rw [done hat]
      exact last_of (obs := []) (rpl_l0 bs _ t l c i) (ac (nd (by omega)) rfl) rfl
end Go.Proofs.YtifnhnkogcgnaaaDoor
namespace Go.Proofs.YtifnhnkogcgnaaaDoor
open Go.Am
noncomputable def hd20 : List Code := [sq1 (bodyOf 20), sq1 (sq2 (bodyOf 20))]
noncomputable def h20 : Code := sq1 (sq1 (sq2 (sq2 (bodyOf 20))))
noncomputable def lp20 : Code := inn (sq2 (sq1 (sq2 (sq2 (bodyOf 20)))))
noncomputable def tl20 : Code := sq2 (sq2 (sq2 (bodyOf 20)))
def rseenL (l : List (List AV)) (s : AV) (i : Int) : Am.Loc := [(0, .sl 4 l), (3, s), (4, I i)]
noncomputable def callR41 (l q : List (List AV)) : CallF := known1 20 (fun args => args = [.sl 4 l]) (fun _ => .sl 4 q) base
noncomputable def b41 : Nat → Code
  | 0 => bodyOf 41
  | k + 1 => sq2 (b41 k)
noncomputable def hd41 : List Code := [sq1 (b41 0), sq1 (b41 1), sq1 (b41 2), sq1 (b41 3), sq1 (b41 4)]
noncomputable def h41 : Code := sq1 (sq1 (b41 5))
noncomputable def lp41 : Code := inn (sq2 (sq1 (b41 5)))
noncomputable def tl41 : Code := sq2 (b41 5)
def rhidL (l : List (List AV)) (x : Int) (s : AV) (k j : Int) : Am.Loc := [(0, .sl 4 l), (1, I x), (6, s), (7, I k), (8, I j)]
noncomputable def hd18 : List Code := [sq1 (bodyOf 18), sq1 (sq2 (bodyOf 18))]
noncomputable def h18 : Code := sq1 (sq1 (sq2 (sq2 (bodyOf 18))))
noncomputable def lp18 : Code := inn (sq2 (sq1 (sq2 (sq2 (bodyOf 18)))))
noncomputable def tl18 : Code := sq2 (sq2 (sq2 (bodyOf 18)))
noncomputable def callR19 (bs : List Nat) (l q : List (List AV)) : CallF := known1 20 (fun args => args = [.sl 4 l]) (fun _ => .sl 4 q) (known1 40 (PlaceArg bs) (placeRes bs) base)
noncomputable def hd19 : List Code := [sq1 (bodyOf 19), sq1 (sq2 (bodyOf 19)), sq1 (sq2 (sq2 (bodyOf 19)))]
noncomputable def h19 : Code := sq1 (sq1 (sq2 (sq2 (sq2 (bodyOf 19)))))
noncomputable def lp19 : Code := inn (sq2 (sq1 (sq2 (sq2 (sq2 (bodyOf 19))))))
noncomputable def tl19 : Code := sq2 (sq2 (sq2 (sq2 (bodyOf 19))))
def ritL (bs : List Nat) (q : List (List AV)) (s : AV) (i : Int) : Am.Loc := [(0, .sl 1 (rowsB bs)), (5, s), (6, .sl 4 q), (7, I i)]
theorem rseen_s0 (l q : List (List AV)) (i m : Nat) (ty ch fr to : Int) : outR [0, 3, 4] [] (runCode Tryd.prog 25 base noPu 3000 lp20 (triM (rseenL l nilS i)) (triO []) 0 ⟨0, [.b true, .row [I ty, I ch, I fr, I to], .b false, .int (i + 1 : Nat), .b true], []⟩) = some (.normal, [some (.sl 4 l), some (nilS), some (I (i + 1 : Nat))], [], 0, [dec (IntKind.i64.wrap ((i : Int) + 1) = (i + 1 : Nat)), !(ch == 0), true && dec (l[i]? = some [I ty, I ch, I fr, I to]), decide ((i : Int) < l.length)]) := by kernel_rfl
theorem rseen_t0 (l q : List (List AV)) (i m : Nat) (ty ch fr to : Int) : outR [0, 3, 4] [1] (runCode Tryd.prog 25 base noPu 3000 lp20 (triM (rseenL l nilS i)) (triO []) 0 ⟨0, [.b true, .row [I ty, I ch, I fr, I to], .b true, .row [I ty, I ch, I fr, I to], .int (i + 1 : Nat), .b true], []⟩) = some (.normal, [some (.sl 4 l), some (.sr 1 4 0 1), some (I (i + 1 : Nat))], [some (.row 43 4 ([[I ty, I ch, I fr, I to]]))], 2, [dec (IntKind.i64.wrap ((i : Int) + 1) = (i + 1 : Nat)), true, true && dec (l[i]? = some [I ty, I ch, I fr, I to]), ch == 0, true && dec (l[i]? = some [I ty, I ch, I fr, I to]), decide ((i : Int) < l.length)]) := by kernel_rfl
theorem rseen_s1 (l q : List (List AV)) (i m : Nat) (ty ch fr to : Int) : outR [0, 3, 4] [0] (runCode Tryd.prog 25 base noPu 3000 lp20 (triM (rseenL l (.sr 0 4 0 m) i)) (triO [.row 43 4 q]) 1 ⟨1, [.b true, .row [I ty, I ch, I fr, I to], .b false, .int (i + 1 : Nat), .b true], []⟩) = some (.normal, [some (.sl 4 l), some (.sr 0 4 0 m), some (I (i + 1 : Nat))], [some (.row 43 4 q)], 1, [dec (IntKind.i64.wrap ((i : Int) + 1) = (i + 1 : Nat)), !(ch == 0), true && dec (l[i]? = some [I ty, I ch, I fr, I to]), decide ((i : Int) < l.length)]) := by kernel_rfl
theorem rseen_t1 (l q : List (List AV)) (i m : Nat) (ty ch fr to : Int) : outR [0, 3, 4] [2] (runCode Tryd.prog 25 base noPu 3000 lp20 (triM (rseenL l (.sr 0 4 0 m) i)) (triO [.row 43 4 q]) 1 ⟨1, [.b true, .row [I ty, I ch, I fr, I to], .b true, .row [I ty, I ch, I fr, I to], .int (i + 1 : Nat), .b true], []⟩) = some (.normal, [some (.sl 4 l), some (.sr 2 4 0 (m + 1)), some (I (i + 1 : Nat))], [some (.row 43 4 (q.take m ++ [[I ty, I ch, I fr, I to]]))], 3, [dec (IntKind.i64.wrap ((i : Int) + 1) = (i + 1 : Nat)), (true && Nat.ble m q.length) && (true && Nat.ble ((m + 1) * 32) 140737488355328 && Nat.ble (m + 1) 9223372036854775807), true && dec (l[i]? = some [I ty, I ch, I fr, I to]), ch == 0, true && dec (l[i]? = some [I ty, I ch, I fr, I to]), decide ((i : Int) < l.length)]) := by kernel_rfl
theorem rseen_l0 (l : List (List AV)) (i : Nat) : lastC Tryd.prog [.tmp 2] 0 (lastR Tryd.prog 25 base noPu 3000 0 tl20 (runCode Tryd.prog 25 base noPu 3000 lp20 (triM (rseenL l nilS i)) (triO []) 0 ⟨0, [.b false, .b true], []⟩)) = some (nilS, [], [!decide ((i : Int) < l.length)]) := by kernel_rfl
theorem rseen_l1 (l q : List (List AV)) (i m : Nat) : lastC Tryd.prog [.tmp 2] 1 (lastR Tryd.prog 25 base noPu 3000 0 tl20 (runCode Tryd.prog 25 base noPu 3000 lp20 (triM (rseenL l (.sr 0 4 0 m) i)) (triO [.row 43 4 q]) 1 ⟨1, [.b false, .b true], []⟩)) = some (.sr 0 4 0 m, [some (.row 43 4 q)], [!decide ((i : Int) < l.length)]) := by kernel_rfl
theorem rseen_head (l : List (List AV)) : outR [0, 3, 4] [] (runL Tryd.prog 25 base noPu 3000 (hd20 ++ [h20]) (argT 0 [.sl 4 l] .e) .e 0 ⟨0, [.b true], []⟩) = some (.normal, [some (.sl 4 l), some nilS, some (I 0)], [], 0, []) := by kernel_rfl
theorem rhid_c0 (l q0 q : List (List AV)) (x : Int) (k i m : Nat) (ty ch fr to : Int) : outR [0, 1, 6, 7, 8] [] (runCode Tryd.prog 44 (callR41 l q0) noPu 3000 lp41 (triM (rhidL l x nilS k i)) (triO []) 0 ⟨0, [.b true, .row [I ty, I ch, I fr, I to], .b true, .int (k + 1 : Nat), .int (i + 1 : Nat), .b true], []⟩) = some (.normal, [some (.sl 4 l), some (I x), some (nilS), some (I (k + 1 : Nat)), some (I (i + 1 : Nat))], [], 0, [dec (IntKind.i64.wrap ((i : Int) + 1) = (i + 1 : Nat)), dec (IntKind.i64.wrap ((k : Int) + 1) = (k + 1 : Nat)), ch == 0, true && dec (l[i]? = some [I ty, I ch, I fr, I to]), decide ((i : Int) < l.length)]) := by kernel_rfl
theorem rhid_s0 (l q0 q : List (List AV)) (x : Int) (k i m : Nat) (ty ch fr to : Int) : outR [0, 1, 6, 7, 8] [] (runCode Tryd.prog 44 (callR41 l q0) noPu 3000 lp41 (triM (rhidL l x nilS k i)) (triO []) 0 ⟨0, [.b true, .row [I ty, I ch, I fr, I to], .b false, .b false, .int (i + 1 : Nat), .b true], []⟩) = some (.normal, [some (.sl 4 l), some (I x), some (nilS), some (I k), some (I (i + 1 : Nat))], [], 0, [dec (IntKind.i64.wrap ((i : Int) + 1) = (i + 1 : Nat)), !((k : Int) == x), !(ch == 0), true && dec (l[i]? = some [I ty, I ch, I fr, I to]), decide ((i : Int) < l.length)]) := by kernel_rfl
theorem rhid_t0 (l q0 q : List (List AV)) (x : Int) (k i m : Nat) (ty ch fr to : Int) : outR [0, 1, 6, 7, 8] [1] (runCode Tryd.prog 44 (callR41 l q0) noPu 3000 lp41 (triM (rhidL l x nilS k i)) (triO []) 0 ⟨0, [.b true, .row [I ty, I ch, I fr, I to], .b false, .b true, .row [I ty, I ch, I fr, I to], .int (i + 1 : Nat), .b true], []⟩) = some (.normal, [some (.sl 4 l), some (I x), some (.sr 1 4 0 1), some (I k), some (I (i + 1 : Nat))], [some (.row 43 4 ([[I ty, I ch, I fr, I to]]))], 2, [dec (IntKind.i64.wrap ((i : Int) + 1) = (i + 1 : Nat)), true, true && dec (l[i]? = some [I ty, I ch, I fr, I to]), (k : Int) == x, !(ch == 0), true && dec (l[i]? = some [I ty, I ch, I fr, I to]), decide ((i : Int) < l.length)]) := by kernel_rfl
theorem rhid_c1 (l q0 q : List (List AV)) (x : Int) (k i m : Nat) (ty ch fr to : Int) : outR [0, 1, 6, 7, 8] [0] (runCode Tryd.prog 44 (callR41 l q0) noPu 3000 lp41 (triM (rhidL l x (.sr 0 4 0 m) k i)) (triO [.row 43 4 q]) 1 ⟨1, [.b true, .row [I ty, I ch, I fr, I to], .b true, .int (k + 1 : Nat), .int (i + 1 : Nat), .b true], []⟩) = some (.normal, [some (.sl 4 l), some (I x), some (.sr 0 4 0 m), some (I (k + 1 : Nat)), some (I (i + 1 : Nat))], [some (.row 43 4 q)], 1, [dec (IntKind.i64.wrap ((i : Int) + 1) = (i + 1 : Nat)), dec (IntKind.i64.wrap ((k : Int) + 1) = (k + 1 : Nat)), ch == 0, true && dec (l[i]? = some [I ty, I ch, I fr, I to]), decide ((i : Int) < l.length)]) := by kernel_rfl
theorem rhid_s1 (l q0 q : List (List AV)) (x : Int) (k i m : Nat) (ty ch fr to : Int) : outR [0, 1, 6, 7, 8] [0] (runCode Tryd.prog 44 (callR41 l q0) noPu 3000 lp41 (triM (rhidL l x (.sr 0 4 0 m) k i)) (triO [.row 43 4 q]) 1 ⟨1, [.b true, .row [I ty, I ch, I fr, I to], .b false, .b false, .int (i + 1 : Nat), .b true], []⟩) = some (.normal, [some (.sl 4 l), some (I x), some (.sr 0 4 0 m), some (I k), some (I (i + 1 : Nat))], [some (.row 43 4 q)], 1, [dec (IntKind.i64.wrap ((i : Int) + 1) = (i + 1 : Nat)), !((k : Int) == x), !(ch == 0), true && dec (l[i]? = some [I ty, I ch, I fr, I to]), decide ((i : Int) < l.length)]) := by kernel_rfl
theorem rhid_t1 (l q0 q : List (List AV)) (x : Int) (k i m : Nat) (ty ch fr to : Int) : outR [0, 1, 6, 7, 8] [2] (runCode Tryd.prog 44 (callR41 l q0) noPu 3000 lp41 (triM (rhidL l x (.sr 0 4 0 m) k i)) (triO [.row 43 4 q]) 1 ⟨1, [.b true, .row [I ty, I ch, I fr, I to], .b false, .b true, .row [I ty, I ch, I fr, I to], .int (i + 1 : Nat), .b true], []⟩) = some (.normal, [some (.sl 4 l), some (I x), some (.sr 2 4 0 (m + 1)), some (I k), some (I (i + 1 : Nat))], [some (.row 43 4 (q.take m ++ [[I ty, I ch, I fr, I to]]))], 3, [dec (IntKind.i64.wrap ((i : Int) + 1) = (i + 1 : Nat)), (true && Nat.ble m q.length) && (true && Nat.ble ((m + 1) * 32) 140737488355328 && Nat.ble (m + 1) 9223372036854775807), true && dec (l[i]? = some [I ty, I ch, I fr, I to]), (k : Int) == x, !(ch == 0), true && dec (l[i]? = some [I ty, I ch, I fr, I to]), decide ((i : Int) < l.length)]) := by kernel_rfl
theorem rhid_l0 (l q0 : List (List AV)) (x : Int) (k i : Nat) : lastC Tryd.prog [.tmp 4] 0 (lastR Tryd.prog 44 (callR41 l q0) noPu 3000 0 tl41 (runCode Tryd.prog 44 (callR41 l q0) noPu 3000 lp41 (triM (rhidL l x nilS k i)) (triO []) 0 ⟨0, [.b false, .b true], []⟩)) = some (nilS, [], [!decide ((i : Int) < l.length)]) := by kernel_rfl
theorem rhid_l1 (l q0 q : List (List AV)) (x : Int) (k i m : Nat) : lastC Tryd.prog [.tmp 4] 1 (lastR Tryd.prog 44 (callR41 l q0) noPu 3000 0 tl41 (runCode Tryd.prog 44 (callR41 l q0) noPu 3000 lp41 (triM (rhidL l x (.sr 0 4 0 m) k i)) (triO [.row 43 4 q]) 1 ⟨1, [.b false, .b true], []⟩)) = some (.sr 0 4 0 m, [some (.row 43 4 q)], [!decide ((i : Int) < l.length)]) := by kernel_rfl
theorem rhid_head (l q0 : List (List AV)) (x : Int) : outR [0, 1, 6, 7, 8] [] (runL Tryd.prog 44 (callR41 l q0) noPu 3000 (hd41 ++ [h41]) (argT 0 [.sl 4 l, I x] .e) .e 0 ⟨0, [.b false, .b false, .b true], []⟩) = some (.normal, [some (.sl 4 l), some (I x), some nilS, some (I 0), some (I 0)], [], 0, [!decide (x > q0.length), !decide (x < 0), dec ([AV.sl 4 l] = [.sl 4 l])]) := by kernel_rfl
theorem rhid_out1 (l q0 : List (List AV)) (x : Int) : outC (runOne Tryd.prog noPu 3000 (callR41 l q0) 41 [.sl 4 l, I x] .e 0 ⟨0, [.b true, .b true], []⟩) = some (nilS, [], [decide (x < 0), dec ([AV.sl 4 l] = [.sl 4 l])]) := by kernel_rfl
theorem rhid_out2 (l q0 : List (List AV)) (x : Int) : outC (runOne Tryd.prog noPu 3000 (callR41 l q0) 41 [.sl 4 l, I x] .e 0 ⟨0, [.b false, .b true, .b true], []⟩) = some (nilS, [], [decide (x > q0.length), !decide (x < 0), dec ([AV.sl 4 l] = [.sl 4 l])]) := by kernel_rfl
def tokL5 (a b : List (List AV)) (i : Int) : Am.Loc := [(0, .sl 5 a), (1, .sl 5 b), (5, I i)]
theorem items_step (a : List (List AV)) (z : Nat) (ty ix co tk : Int) : outR [0, 1, 5] [] (runCode Tryd.prog 26 base noPu 3000 lp18 (triM (tokL5 a a z)) (triO []) 0 ⟨0, [.b true, .row [I ty, I ix, I co, .v (.bool false), I tk], .row [I ty, I ix, I co, .v (.bool false), I tk], .b false, .int (z + 1 : Nat), .b true], []⟩) = some (.normal, [some (.sl 5 a), some (.sl 5 a), some (I (z + 1 : Nat))], [], 0, [dec (IntKind.i64.wrap ((z : Int) + 1) = (z + 1 : Nat)), !(!(decide (ty = ty) && (decide (ix = ix) && (decide (co = co) && (true && (decide (tk = tk) && true)))))), true && dec (a[z]? = some [I ty, I ix, I co, .v (.bool false), I tk]), true && dec (a[z]? = some [I ty, I ix, I co, .v (.bool false), I tk]), decide ((z : Int) < a.length)]) := by kernel_rfl
theorem items_last (a : List (List AV)) (z : Nat) : lastC Tryd.prog [.tmp 4] 0 (lastR Tryd.prog 26 base noPu 3000 0 tl18 (runCode Tryd.prog 26 base noPu 3000 lp18 (triM (tokL5 a a z)) (triO []) 0 ⟨0, [.b false, .b true], []⟩)) = some (.v (.bool true), [], [!decide ((z : Int) < a.length)]) := by kernel_rfl
theorem items_head (a : List (List AV)) : outR [0, 1, 5] [] (runL Tryd.prog 26 base noPu 3000 (hd18 ++ [h18]) (argT 0 [.sl 5 a, .sl 5 a] .e) .e 0 ⟨0, [.b false, .b true], []⟩) = some (.normal, [some (.sl 5 a), some (.sl 5 a), some (I 0)], [], 0, [!((a.length : Int) != a.length)]) := by kernel_rfl
theorem rspan_run (a b m n : Nat) : outC (base 42 [I m, I n] .e 0 ⟨0, [iv m, iv m, fv a, iv n, iv n, fv b, .b true], []⟩) = some (.v (.complex .f64 a b), [], [dec (ConvP Tryd.prog 3 74 (.int .i64 n) (.float .f64 b)), dec (CallP Tryd.prog .min #[3, 3] 3 #[false, true] [.int .i64 n, .int .i64 1099511627776] (.int .i64 n)), dec (CallP Tryd.prog .max #[3, 3] 3 #[false, true] [.int .i64 n, .int .i64 0] (.int .i64 n)), dec (ConvP Tryd.prog 3 74 (.int .i64 m) (.float .f64 a)), dec (CallP Tryd.prog .min #[3, 3] 3 #[false, true] [.int .i64 m, .int .i64 1099511627776] (.int .i64 m)), dec (CallP Tryd.prog .max #[3, 3] 3 #[false, true] [.int .i64 m, .int .i64 0] (.int .i64 m))]) := by kernel_rfl
theorem rit_s0 (bs : List Nat) (l q r : List (List AV)) (i m : Nat) (ty ch fr to : Int) : outR [0, 5, 6, 7] [1] (runCode Tryd.prog 58 (callR19 bs l q) noPu 3000 lp19 (triM (ritL bs q nilS i)) (triO []) 0 ⟨0, [.b true, .row [I ty, I ch, I fr, I to], .row [I ty, I ch, I fr, I to], .int (i + 1 : Nat), .b true], []⟩) = some (.normal, [some (.sl 1 (rowsB bs)), some (.sr 1 5 0 1), some (.sl 4 q), some (I (i + 1 : Nat))], [some (.row 52 5 ([itemRow ty i (placeOf bs fr.toNat).2]))], 2, [dec (IntKind.i64.wrap ((i : Int) + 1) = (i + 1 : Nat)), true, true && dec (q[i]? = some [I ty, I ch, I fr, I to]), dec (PlaceArg bs [.sl 1 (rowsB bs), I fr]), true && dec (q[i]? = some [I ty, I ch, I fr, I to]), decide ((i : Int) < q.length)]) := by kernel_rfl
theorem rit_s1 (bs : List Nat) (l q r : List (List AV)) (i m : Nat) (ty ch fr to : Int) : outR [0, 5, 6, 7] [2] (runCode Tryd.prog 58 (callR19 bs l q) noPu 3000 lp19 (triM (ritL bs q (.sr 0 5 0 m) i)) (triO [.row 52 5 r]) 1 ⟨1, [.b true, .row [I ty, I ch, I fr, I to], .row [I ty, I ch, I fr, I to], .int (i + 1 : Nat), .b true], []⟩) = some (.normal, [some (.sl 1 (rowsB bs)), some (.sr 2 5 0 (m + 1)), some (.sl 4 q), some (I (i + 1 : Nat))], [some (.row 52 5 (r.take m ++ [itemRow ty i (placeOf bs fr.toNat).2]))], 3, [dec (IntKind.i64.wrap ((i : Int) + 1) = (i + 1 : Nat)), (true && Nat.ble m r.length) && (true && Nat.ble ((m + 1) * 40) 140737488355328 && Nat.ble (m + 1) 9223372036854775807), true && dec (q[i]? = some [I ty, I ch, I fr, I to]), dec (PlaceArg bs [.sl 1 (rowsB bs), I fr]), true && dec (q[i]? = some [I ty, I ch, I fr, I to]), decide ((i : Int) < q.length)]) := by kernel_rfl
theorem rit_l0 (bs : List Nat) (l q : List (List AV)) (i : Nat) : lastC Tryd.prog [.tmp 4] 2 (lastR Tryd.prog 58 (callR19 bs l q) noPu 3000 0 tl19 (runCode Tryd.prog 58 (callR19 bs l q) noPu 3000 lp19 (triM (ritL bs q nilS i)) (triO []) 0 ⟨0, [.b false, .b true], []⟩)) = some (.sr 1 5 0 1, [some (.row 52 5 [itemRow 0 q.length (placeOf bs ((rowsB bs).length : Int).toNat).2]), some (.row 52 5 [itemRow 0 q.length (placeOf bs ((rowsB bs).length : Int).toNat).2])], [true, dec (PlaceArg bs [.sl 1 (rowsB bs), I ((rowsB bs).length : Int)]), !decide ((i : Int) < q.length)]) := by kernel_rfl
theorem rit_l1 (bs : List Nat) (l q r : List (List AV)) (i m : Nat) : lastC Tryd.prog [.tmp 4] 3 (lastR Tryd.prog 58 (callR19 bs l q) noPu 3000 0 tl19 (runCode Tryd.prog 58 (callR19 bs l q) noPu 3000 lp19 (triM (ritL bs q (.sr 0 5 0 m) i)) (triO [.row 52 5 r]) 1 ⟨1, [.b false, .b true], []⟩)) = some (.sr 2 5 0 (m + 1), [some .dead, some (.row 52 5 [itemRow 0 q.length (placeOf bs ((rowsB bs).length : Int).toNat).2]), some (.row 52 5 (r.take m ++ [itemRow 0 q.length (placeOf bs ((rowsB bs).length : Int).toNat).2]))], [(true && Nat.ble m r.length) && (true && Nat.ble ((m + 1) * 40) 140737488355328 && Nat.ble (m + 1) 9223372036854775807), dec (PlaceArg bs [.sl 1 (rowsB bs), I ((rowsB bs).length : Int)]), !decide ((i : Int) < q.length)]) := by kernel_rfl
theorem rit_head (bs : List Nat) (l q : List (List AV)) : outR [0, 5, 6, 7] [] (runL Tryd.prog 58 (callR19 bs l q) noPu 3000 (hd19 ++ [h19]) (argT 0 [.sl 1 (rowsB bs), .sl 4 l] .e) .e 0 ⟨0, [.b true], []⟩) = some (.normal, [some (.sl 1 (rowsB bs)), some nilS, some (.sl 4 q), some (I 0)], [], 0, [dec ([AV.sl 4 l] = [.sl 4 l])]) := by kernel_rfl

/-! ### What they tell -/
def slotT : List Tok → AV
  | [] => nilS
  | a :: l => .sr 0 4 0 (a :: l).length
def obT : List Tok → List Ob
  | [] => []
  | a :: l => [.row 43 4 (toks (a :: l))]
theorem und_slotT (m : List Tok) : (slotT m).und (obT m).length = true := by cases m <;> rfl
theorem und_obT (m : List Tok) : (obT m).all (Ob.und (obT m).length) = true := by
  cases m with
  | nil => rfl
  | cons a m => simp [obT, Ob.und, undRows_pure 1 _ (pure_toks (a :: m))]
theorem renO_toks (f : Nat → Nat) (m : List Tok) : renO f [.row 43 4 (toks m)] = [some (.row 43 4 (toks m))] := by simp [renO, Ob.ren, renRows_pure _ _ (pure_toks m)]
theorem renO_obT (f : Nat → Nat) (m : List Tok) : renO f (obT m) = (obT m).map some := by
  cases m with
  | nil => rfl
  | cons a m => exact renO_toks f (a :: m)
theorem of_slotT {f : FuncId} {args : List AV} {m : List Tok} (h : ARet Tryd.prog f args [] [] (slotT m) (obT m)) : ARet Tryd.prog f args [] [] (.sl 4 (toks m)) [] := by
  cases m with
  | nil => exact aret_weak h fun m γ x hx => weak_nil x hx
  | cons a m => exact aret_slice h (o := 0) rfl (toks_len _).symm (pure_toks _)
theorem toks_app (m : List Tok) (t : Tok) : toks (m ++ [t]) = toks m ++ [[I t.ty, I t.ch, I t.fr, I t.to]] := by simp [toks, tokRow]
/-- the tokens that are seen -/
def seenT (l : List Tok) : List Tok := l.filter fun t => t.ch == 0
theorem rseen_raw (l : List Tok) (hn : l.length ≤ 100000) (R : List Tok) (hR : R = seenT l) : ARet Tryd.prog 20 [.sl 4 (toks l)] [] [] (slotT R) (obT R) := by
  have hlen := toks_len l
  have hren : ∀ f s i, renL f (rseenL (toks l) s i) = [some (.sl 4 (toks l)), some (s.ren f), some (I i)] := fun f s i => by simp [renL, rseenL, AV.ren, renRows_pure _ _ (pure_toks l)]
  refine aret_loop2 base_ok mixed (pu := noPu) (lf := 3000) (fn := Tryd.f20) (hs := hd20) (H := h20) (id := 0) (c := lp20) (B := tl20) rfl rfl rfl (Nat.le_of_ble_eq_true rfl) (und_slotT R) (und_obT R)
    (ι := Nat × List Tok) (fun x => rseenL (toks l) (slotT x.2) x.1) (fun x => obT x.2)
    (fun x => x.1 ≤ l.length ∧ x.2.length ≤ x.1 ∧ x.2 ++ seenT (l.drop x.1) = R) (fun x => l.length - x.1) (0, [])
    ⟨by simp, by simp, by simp [hR]⟩ ?_ ?_
  · exact head_of (L' := rseenL (toks l) (slotT []) (0 : Nat)) (rseen_head (toks l)) rfl rfl (by rw [hren]; rfl) rfl
  · rintro ⟨i, acc⟩ ⟨h1, h2, h3⟩
    simp only at h1 h2 h3 ⊢
    by_cases hi : i < l.length
    · left
      have hd := List.drop_eq_getElem_cons hi
      have hrow := tokRow_at (List.getElem?_eq_getElem hi)
      rw [hd] at h3
      generalize l[i] = t at h3 hrow
      have p1 : decide ((i : Int) < (toks l).length) = true := decide_eq_true (by omega)
      have p2 : (true && dec ((toks l)[i]? = some [I t.ty, I t.ch, I t.fr, I t.to])) = true := by rw [Bool.true_and]; exact dec_true.2 hrow
      have p3 : dec (IntKind.i64.wrap ((i : Int) + 1) = (i + 1 : Nat)) = true := dec_true.2 ((wrap64 (by omega) (by omega)).trans (by omega))
      by_cases hc : t.ch = 0
      · have pc : (t.ch == 0) = true := by simp [hc]
        simp only [seenT, List.filter_cons, pc, if_true] at h3
        refine ⟨(i + 1, acc ++ [t]), ⟨by simp only; omega, by simp; omega, by rw [← h3]; simp [seenT]⟩, by simp only; omega, ?_⟩
        cases acc with
        | nil => exact step_of (L' := rseenL (toks l) (slotT [t]) (i + 1 : Nat)) (rseen_t0 (toks l) [] i 0 t.ty t.ch t.fr t.to) (ac p3 (ac rfl (ac p2 (ac pc (ac p2 (ac p1 rfl)))))) rfl (by rw [hren]; rfl) (renO_toks _ [t])
        | cons a acc =>
          have r1 := toks_len (a :: acc)
          have r2 : (a :: acc).length = acc.length + 1 := rfl
          refine step_of (L' := rseenL (toks l) (slotT (a :: acc ++ [t])) (i + 1 : Nat)) (rseen_t1 (toks l) (toks (a :: acc)) i (a :: acc).length t.ty t.ch t.fr t.to) (ac p3 (ac (andt (andt rfl (nle (by omega))) (andt (andt rfl (nle (by omega))) (nle (by omega)))) (ac p2 (ac pc (ac p2 (ac p1 rfl)))))) rfl ?_ ?_
          · rw [hren]; simp [slotT, AV.ren, fsel]
          · show renO _ [Ob.row 43 4 (toks (a :: acc ++ [t]))] = _
            rw [renO_toks, List.take_of_length_le (by omega), toks_app]
      · have pc : (!(t.ch == 0)) = true := by simp [hc]
        have pc' : (t.ch == 0) = false := by simp [hc]
        simp only [seenT, List.filter_cons, pc'] at h3
        refine ⟨(i + 1, acc), ⟨by simp only; omega, by simp only; omega, by rw [← h3]; simp [seenT]⟩, by simp only; omega, ?_⟩
        cases acc with
        | nil => exact step_of (L' := rseenL (toks l) (slotT []) (i + 1 : Nat)) (rseen_s0 (toks l) [] i 0 t.ty t.ch t.fr t.to) (ac p3 (ac pc (ac p2 (ac p1 rfl)))) rfl (by rw [hren]; rfl) rfl
        | cons a acc => exact step_of (L' := rseenL (toks l) (slotT (a :: acc)) (i + 1 : Nat)) (rseen_s1 (toks l) (toks (a :: acc)) i (a :: acc).length t.ty t.ch t.fr t.to) (ac p3 (ac pc (ac p2 (ac p1 rfl)))) rfl (by rw [hren]; rfl) (renO_toks _ _)
    · right
      have hz : l.drop i = [] := List.drop_eq_nil_of_le (by omega)
      rw [hz] at h3
      simp only [seenT, List.filter_nil, List.append_nil] at h3
      rw [← h3]
      cases acc with
      | nil => exact last_of (rseen_l0 (toks l) i) (ac (nd (by omega)) rfl) rfl
      | cons a acc => exact last_of (rseen_l1 (toks l) _ i _) (ac (nd (by omega)) rfl) rfl
theorem refSeen_ok (l : List Tok) (hn : l.length ≤ 100000) : ARet Tryd.prog 20 [.sl 4 (toks l)] [] [] (.sl 4 (toks (seenT l))) [] := of_slotT (rseen_raw l hn _ rfl)
/-- what is hidden ahead of an item, as the document tells it -/
def hidF (x : Int) : Nat → List Tok → List Tok
  | _, [] => []
  | k, t :: ts => if t.ch = 0 then hidF x (k + 1) ts else if (k : Int) = x then t :: hidF x k ts else hidF x k ts
theorem rhid_raw (l : List Tok) (hn : l.length ≤ 100000) (q0 : List (List AV)) (h20 : ARet Tryd.prog 20 [.sl 4 (toks l)] [] [] (.sl 4 q0) []) (hq0 : pureRows q0 = true) (x : Int) (hx0 : 0 ≤ x) (hx : x ≤ q0.length) (R : List Tok) (hR : R = hidF x 0 l) : ARet Tryd.prog 41 [.sl 4 (toks l), I x] [] [] (slotT R) (obT R) := by
  have hlen := toks_len l
  have hcf : CallOk Tryd.prog (callR41 (toks l) q0) := known1_ok (fun args h => by subst h; exact ⟨h20, by simp [pureVals, AV.pure, pure_toks], by simp [AV.pure, hq0]⟩) base_ok
  have hren : ∀ f s k i, renL f (rhidL (toks l) x s k i) = [some (.sl 4 (toks l)), some (I x), some (s.ren f), some (I k), some (I i)] := fun f s k i => by simp [renL, rhidL, AV.ren, renRows_pure _ _ (pure_toks l)]
  refine aret_loop2 hcf mixed (pu := noPu) (lf := 3000) (fn := Tryd.f41) (hs := hd41) (H := h41) (id := 0) (c := lp41) (B := tl41) rfl rfl rfl (Nat.le_of_ble_eq_true rfl) (und_slotT R) (und_obT R)
    (ι := Nat × Nat × List Tok) (fun y => rhidL (toks l) x (slotT y.2.2) y.2.1 y.1) (fun y => obT y.2.2)
    (fun y => y.1 ≤ l.length ∧ y.2.1 ≤ y.1 ∧ y.2.2.length ≤ y.1 ∧ y.2.2 ++ hidF x y.2.1 (l.drop y.1) = R) (fun y => l.length - y.1) (0, 0, [])
    ⟨by simp, by simp, by simp, by simp [hR]⟩ ?_ ?_
  · exact head_of (L' := rhidL (toks l) x (slotT []) (0 : Nat) (0 : Nat)) (rhid_head (toks l) q0 x) (ac (nd (by omega)) (ac (nd (by omega)) (ac (dec_true.2 rfl) rfl))) rfl (by rw [hren]; rfl) rfl
  · rintro ⟨i, k, acc⟩ ⟨h1, h4, h2, h3⟩
    simp only at h1 h2 h3 h4 ⊢
    by_cases hi : i < l.length
    · left
      have hd := List.drop_eq_getElem_cons hi
      have hrow := tokRow_at (List.getElem?_eq_getElem hi)
      rw [hd] at h3
      generalize l[i] = t at h3 hrow
      simp only [hidF] at h3
      have p1 : decide ((i : Int) < (toks l).length) = true := decide_eq_true (by omega)
      have p2 : (true && dec ((toks l)[i]? = some [I t.ty, I t.ch, I t.fr, I t.to])) = true := by rw [Bool.true_and]; exact dec_true.2 hrow
      have p3 : dec (IntKind.i64.wrap ((i : Int) + 1) = (i + 1 : Nat)) = true := dec_true.2 ((wrap64 (by omega) (by omega)).trans (by omega))
      have p4 : dec (IntKind.i64.wrap ((k : Int) + 1) = (k + 1 : Nat)) = true := dec_true.2 ((wrap64 (by omega) (by omega)).trans (by omega))
      by_cases hc : t.ch = 0
      · have pc : (t.ch == 0) = true := by simp [hc]
        rw [if_pos hc] at h3
        refine ⟨(i + 1, k + 1, acc), ⟨by simp only; omega, by simp only; omega, by simp only; omega, h3⟩, by simp only; omega, ?_⟩
        cases acc with
        | nil => exact step_of (L' := rhidL (toks l) x (slotT []) (k + 1 : Nat) (i + 1 : Nat)) (rhid_c0 (toks l) q0 [] x k i 0 t.ty t.ch t.fr t.to) (ac p3 (ac p4 (ac pc (ac p2 (ac p1 rfl))))) rfl (by rw [hren]; rfl) rfl
        | cons a acc => exact step_of (L' := rhidL (toks l) x (slotT (a :: acc)) (k + 1 : Nat) (i + 1 : Nat)) (rhid_c1 (toks l) q0 (toks (a :: acc)) x k i (a :: acc).length t.ty t.ch t.fr t.to) (ac p3 (ac p4 (ac pc (ac p2 (ac p1 rfl))))) rfl (by rw [hren]; rfl) (renO_toks _ _)
      · have pc : (!(t.ch == 0)) = true := by simp [hc]
        rw [if_neg hc] at h3
        by_cases hk : (k : Int) = x
        · rw [if_pos hk] at h3
          refine ⟨(i + 1, k, acc ++ [t]), ⟨by simp only; omega, by simp only; omega, by simp; omega, by rw [← h3]; simp⟩, by simp only; omega, ?_⟩
          cases acc with
          | nil => exact step_of (L' := rhidL (toks l) x (slotT [t]) (k : Nat) (i + 1 : Nat)) (rhid_t0 (toks l) q0 [] x k i 0 t.ty t.ch t.fr t.to) (ac p3 (ac rfl (ac p2 (ac (ybeq hk) (ac pc (ac p2 (ac p1 rfl))))))) rfl (by rw [hren]; rfl) (renO_toks _ [t])
          | cons a acc =>
            have r1 := toks_len (a :: acc)
            have r2 : (a :: acc).length = acc.length + 1 := rfl
            refine step_of (L' := rhidL (toks l) x (slotT (a :: acc ++ [t])) (k : Nat) (i + 1 : Nat)) (rhid_t1 (toks l) q0 (toks (a :: acc)) x k i (a :: acc).length t.ty t.ch t.fr t.to) (ac p3 (ac (andt (andt rfl (nle (by omega))) (andt (andt rfl (nle (by omega))) (nle (by omega)))) (ac p2 (ac (ybeq hk) (ac pc (ac p2 (ac p1 rfl))))))) rfl ?_ ?_
            · rw [hren]; simp [slotT, AV.ren, fsel]
            · show renO _ [Ob.row 43 4 (toks (a :: acc ++ [t]))] = _
              rw [renO_toks, List.take_of_length_le (by omega), toks_app]
        · rw [if_neg hk] at h3
          refine ⟨(i + 1, k, acc), ⟨by simp only; omega, by simp only; omega, by simp only; omega, h3⟩, by simp only; omega, ?_⟩
          cases acc with
          | nil => exact step_of (L' := rhidL (toks l) x (slotT []) (k : Nat) (i + 1 : Nat)) (rhid_s0 (toks l) q0 [] x k i 0 t.ty t.ch t.fr t.to) (ac p3 (ac (nbeq hk) (ac pc (ac p2 (ac p1 rfl))))) rfl (by rw [hren]; rfl) rfl
          | cons a acc => exact step_of (L' := rhidL (toks l) x (slotT (a :: acc)) (k : Nat) (i + 1 : Nat)) (rhid_s1 (toks l) q0 (toks (a :: acc)) x k i (a :: acc).length t.ty t.ch t.fr t.to) (ac p3 (ac (nbeq hk) (ac pc (ac p2 (ac p1 rfl))))) rfl (by rw [hren]; rfl) (renO_toks _ _)
    · right
      have hz : l.drop i = [] := List.drop_eq_nil_of_le (by omega)
      rw [hz] at h3
      simp only [hidF, List.append_nil] at h3
      rw [← h3]
      cases acc with
      | nil => exact last_of (rhid_l0 (toks l) q0 x k i) (ac (nd (by omega)) rfl) rfl
      | cons a acc => exact last_of (rhid_l1 (toks l) q0 _ x k i _) (ac (nd (by omega)) rfl) rfl
theorem rhid_bad (l : List Tok) (q0 : List (List AV)) (h20 : ARet Tryd.prog 20 [.sl 4 (toks l)] [] [] (.sl 4 q0) []) (hq0 : pureRows q0 = true) (x : Int) (hx : x < 0 ∨ x > q0.length) : ARet Tryd.prog 41 [.sl 4 (toks l), I x] [] [] (.sl 4 (toks [])) [] := by
  have hcf : CallOk Tryd.prog (callR41 (toks l) q0) := known1_ok (fun args h => by subst h; exact ⟨h20, by simp [pureVals, AV.pure, pure_toks], by simp [AV.pure, hq0]⟩) base_ok
  refine aret_weak (r := nilS) ?_ fun m γ x hx => weak_nil x hx
  by_cases h : x < 0
  · exact aret_of_run (obs := []) (runOne_ok hcf mixed _ _) (rhid_out1 (toks l) q0 x) (ac (decide_eq_true h) (ac (dec_true.2 rfl) rfl))
  · exact aret_of_run (obs := []) (runOne_ok hcf mixed _ _) (rhid_out2 (toks l) q0 x) (ac (decide_eq_true (by omega)) (ac (nd h) (ac (dec_true.2 rfl) rfl)))
theorem seenF_shift : ∀ (l : List Tok) (i : Nat), seenF (i + 1) l = (seenF i l).map (· + 1)
  | [], _ => rfl
  | t :: ts, i => by
    simp only [seenF]
    split
    · simp [seenF_shift ts (i + 1)]
    · exact seenF_shift ts (i + 1)
theorem seenT_len (l : List Tok) : (seenT l).length = (seenF 0 l).length := by
  induction l with
  | nil => rfl
  | cons t ts ih =>
    simp only [seenT, seenF, List.filter_cons] at ih ⊢
    by_cases hc : t.ch = 0
    · simp only [hc, beq_self_eq_true, if_true, List.length_cons, seenF_shift, List.length_map, ih]
    · have : (t.ch == 0) = false := by simp [hc]
      simp only [this, hc, if_false, seenF_shift, List.length_map]
      simpa using ih
theorem seenT_rows (l : List Tok) : seenR l (seenF 0 l).length = toks (seenT l) := by
  have key : ∀ (ts : List Tok) (i0 : Nat), l.drop i0 = ts → (seenF i0 ts).map (fun i => match l[i]? with | some t => tokRow t | none => []) = toks (seenT ts) := by
    intro ts
    induction ts with
    | nil => intro i0 _; rfl
    | cons t ts ih =>
      intro i0 h
      have h1 : l[i0]? = some t := by
        have : (l.drop i0)[0]? = some t := by rw [h]; rfl
        rwa [List.getElem?_drop, Nat.add_zero] at this
      have h2 : l.drop (i0 + 1) = ts := by rw [← List.drop_drop, h]; rfl
      have ih' := ih (i0 + 1) h2
      simp only [seenF, seenT, List.filter_cons] at ih' ⊢
      by_cases hc : t.ch = 0
      · simp only [hc, if_true, beq_self_eq_true, List.map_cons, h1]
        simp only [toks, List.map_cons] at ih' ⊢
        rw [ih']
      · have : (t.ch == 0) = false := by simp [hc]
        simp only [hc, if_false, this]
        simpa using ih'
  rw [← key l 0 rfl]
  unfold seenR
  apply List.ext_getElem?
  intro i
  rw [List.getElem?_map, List.getElem?_map]
  by_cases hi : i < (seenF 0 l).length
  · rw [List.getElem?_range hi, List.getElem?_eq_getElem hi]
    simp only [Option.map_some, seenAt, List.getElem?_eq_getElem hi]
    rfl
  · rw [List.getElem?_eq_none (by simp; omega), List.getElem?_eq_none (by omega)]
    rfl
theorem hidF_late : ∀ (l : List Tok) (x : Int) (k : Nat), x < k → hidF x k l = []
  | [], _, _, _ => rfl
  | t :: ts, x, k, h => by
    simp only [hidF]
    split
    · exact hidF_late ts x (k + 1) (by omega)
    · rw [if_neg (by omega)]
      exact hidF_late ts x k h
theorem hidAt_cons0 {t : Tok} {ts : List Tok} (hc : t.ch = 0) (d : Nat) : hidAt (t :: ts) (d + 1) = ((match d with | 0 => 1 | d' + 1 => (match (seenF 0 ts)[d']? with | some a => a + 2 | none => 0)), (match (seenF 0 ts)[d]? with | some b => b + 1 | none => ts.length + 1)) := by
  have e : seenF 0 (t :: ts) = 0 :: (seenF 0 ts).map (· + 1) := by simp only [seenF, hc, if_true, seenF_shift]
  simp only [hidAt, e]
  cases d with
  | zero =>
    simp only [List.getElem?_cons_zero, List.getElem?_cons_succ, List.getElem?_map]
    cases (seenF 0 ts)[0]? <;> simp
  | succ d =>
    simp only [List.getElem?_cons_succ, List.getElem?_map]
    cases (seenF 0 ts)[d]? <;> cases (seenF 0 ts)[d + 1]? <;> simp
theorem hidF_eq : ∀ (l : List Tok) (d k : Nat), d ≤ (seenF 0 l).length → hidF ((k + d : Nat) : Int) k l = (l.drop (hidAt l d).1).take ((hidAt l d).2 - (hidAt l d).1)
  | [], d, k, _ => by simp [hidF]
  | t :: ts, d, k, hd => by
    simp only [hidF]
    by_cases hc : t.ch = 0
    · rw [if_pos hc]
      have e : seenF 0 (t :: ts) = 0 :: (seenF 0 ts).map (· + 1) := by simp only [seenF, hc, if_true, seenF_shift]
      cases d with
      | zero =>
        rw [hidF_late ts _ _ (by omega)]
        have : hidAt (t :: ts) 0 = (0, 0) := by simp only [hidAt, e]; rfl
        rw [this]; simp
      | succ d =>
        rw [e] at hd
        simp only [List.length_cons, List.length_map] at hd
        have ih := hidF_eq ts d (k + 1) (by omega)
        rw [show ((k + (d + 1) : Nat) : Int) = ((k + 1 + d : Nat) : Int) from by omega, ih, hidAt_cons0 hc]
        cases d with
        | zero =>
          simp only [hidAt]
          cases (seenF 0 ts)[0]? <;> simp
        | succ d =>
          obtain ⟨a, ha⟩ : ∃ a, (seenF 0 ts)[d]? = some a := ⟨_, List.getElem?_eq_getElem (by omega)⟩
          simp only [hidAt, ha]
          cases (seenF 0 ts)[d + 1]? <;> simp
    · rw [if_neg hc]
      have e : seenF 0 (t :: ts) = (seenF 0 ts).map (· + 1) := by simp only [seenF, hc, if_false, seenF_shift]
      rw [e, List.length_map] at hd
      have ih := hidF_eq ts d k hd
      cases d with
      | zero =>
        rw [if_pos (by omega)]
        rw [ih]
        simp only [hidAt, e, List.getElem?_map]
        cases (seenF 0 ts)[0]? <;> simp
      | succ d =>
        rw [if_neg (by omega), ih]
        obtain ⟨a, ha⟩ : ∃ a, (seenF 0 ts)[d]? = some a := ⟨_, List.getElem?_eq_getElem (by omega)⟩
        simp only [hidAt, e, List.getElem?_map, ha]
        cases (seenF 0 ts)[d + 1]? <;> simp
theorem refHidden_ok (l : List Tok) (hn : l.length ≤ 100000) (k : Nat) (hk : k ≤ (seenF 0 l).length) : ARet Tryd.prog 41 [.sl 4 (toks l), I k] [] [] (.sl 4 (((toks l).drop (hidAt l k).1).take ((hidAt l k).2 - (hidAt l k).1))) [] := by
  have h := of_slotT (rhid_raw l hn (toks (seenT l)) (refSeen_ok l hn) (pure_toks _) k (by omega) (by rw [toks_len, seenT_len]; omega) _ rfl)
  have e := hidF_eq l k 0 hk
  rw [Nat.zero_add] at e
  rw [e] at h
  rw [toks_piece]
  exact h
theorem refHidden_bad (l : List Tok) (hn : l.length ≤ 100000) (x : Int) (hx : x < 0 ∨ x > (seenF 0 l).length) : ARet Tryd.prog 41 [.sl 4 (toks l), I x] [] [] (.sl 4 (toks [])) [] :=
  rhid_bad l (toks (seenT l)) (refSeen_ok l hn) (pure_toks _) x (by rw [toks_len, seenT_len]; exact hx)
theorem itemsEq_ok (a : List (List AV)) (hp : pureRows a = true) (hn : a.length ≤ 100000) (hr : ∀ k, k < a.length → ∃ ty ix co tk : Int, a[k]? = some [I ty, I ix, I co, .v (.bool false), I tk]) : ARet Tryd.prog 18 [.sl 5 a, .sl 5 a] [] [] (.v (.bool true)) [] := by
  have hren : ∀ f i, renL f (tokL5 a a i) = [some (.sl 5 a), some (.sl 5 a), some (I i)] := fun f i => by simp [renL, tokL5, AV.ren, renRows_pure _ _ hp]
  refine aret_loop2 base_ok mixed (pu := noPu) (lf := 3000) (fn := Tryd.f18) (hs := hd18) (H := h18) (id := 0) (c := lp18) (B := tl18) rfl rfl rfl (Nat.le_of_ble_eq_true rfl) rfl rfl
    (ι := Nat) (fun j => tokL5 a a j) (fun _ => []) (fun j => j ≤ a.length) (fun j => a.length - j) 0 (Nat.zero_le _) ?_ ?_
  · exact head_of (L' := tokL5 a a (0 : Nat)) (items_head a) (ac (by simp) rfl) rfl (hren _ _) rfl
  · intro j hj
    by_cases hjn : j < a.length
    · left
      obtain ⟨ty, ix, co, tk, hrow⟩ := hr j hjn
      have p2 : (true && dec (a[j]? = some [I ty, I ix, I co, .v (.bool false), I tk])) = true := by rw [Bool.true_and]; exact dec_true.2 hrow
      exact ⟨j + 1, hjn, by omega, step_of (L' := tokL5 a a (j + 1 : Nat)) (items_step a j ty ix co tk) (ac (dec_true.2 ((wrap64 (by omega) (by omega)).trans (by omega))) (ac (by simp) (ac p2 (ac p2 (ac (decide_eq_true (by omega)) rfl))))) rfl (hren _ _) rfl⟩
    · right
      exact last_of (obs := []) (items_last a j) (ac (nd (by omega)) rfl) rfl
theorem rspan_ok {m n : Nat} (hm : m ≤ 2000) (hn : n ≤ 2000) : ARet Tryd.prog 42 [I m, I n] [] [] (spanV m n) [] :=
  aret_of_run (obs := []) base_ok (rspan_run (fb m) (fb n) m n) (ac (dec_true.2 (fl hn).cf) (ac (dec_true.2 (minP (by omega))) (ac (dec_true.2 (maxP (by omega))) (ac (dec_true.2 (fl hm).cf) (ac (dec_true.2 (minP (by omega))) (ac (dec_true.2 (maxP (by omega))) rfl))))))
def slotI5 : Nat → AV
  | 0 => nilS
  | j + 1 => .sr 0 5 0 (j + 1)
noncomputable def obI5 (bs : List Nat) (l : List Tok) : Nat → List Ob
  | 0 => []
  | j + 1 => [.row 52 5 (itemsOf bs l (j + 1))]
noncomputable def ritO (bs : List Nat) (l : List Tok) : Nat → List Ob
  | 0 => [.row 52 5 [itemRow 0 (0 : Nat) (placeOf bs bs.length).2], .row 52 5 [itemRow 0 (0 : Nat) (placeOf bs bs.length).2]]
  | k + 1 => [.dead, .row 52 5 [itemRow 0 (k + 1 : Nat) (placeOf bs bs.length).2], .row 52 5 (itemsOf bs l (k + 1) ++ [itemRow 0 (k + 1 : Nat) (placeOf bs bs.length).2])]
def ritR : Nat → AV
  | 0 => .sr 1 5 0 1
  | k + 1 => .sr 2 5 0 (k + 2)
theorem rit_raw (bs : List Nat) (l : List Tok) (hb : ∀ b ∈ bs, b < 256) (hl : bs.length ≤ 100000) (hn : l.length ≤ 100000) (hf : FairF bs 0 l) (n : Nat) (hnn : n = (seenF 0 l).length) : ARet Tryd.prog 19 [.sl 1 (rowsB bs), .sl 4 (toks l)] [] [] (ritR n) (ritO bs l n) := by
  have hql : (toks (seenT l)).length = n := by rw [toks_len, seenT_len, hnn]
  have hblen := rowsB_len bs
  have hsl := seenF_len l 0
  have hcf : CallOk Tryd.prog (callR19 bs (toks l) (toks (seenT l))) := known1_ok (fun args h => by subst h; exact ⟨refSeen_ok l hn, by simp [pureVals, AV.pure, pure_toks], by simp [AV.pure, pure_toks]⟩) (known1_ok (fun args h => by
    obtain ⟨t, ht, rfl⟩ := h
    exact ⟨refPlace_ok bs hb hl t ht, by simp [pureVals, AV.pure, pure_bytes], rfl⟩) base_ok)
  have hren : ∀ f s i, renL f (ritL bs (toks (seenT l)) s i) = [some (.sl 1 (rowsB bs)), some (s.ren f), some (.sl 4 (toks (seenT l))), some (I i)] := fun f s i => by simp [renL, ritL, AV.ren, renRows_pure _ _ (pure_toks _), renRows_pure _ _ (pure_bytes bs)]
  have hrenO : ∀ f k, renO f [.row 52 5 (itemsOf bs l k)] = [some (.row 52 5 (itemsOf bs l k))] := fun f k => by simp [renO, Ob.ren, renRows_pure _ _ (pure_items bs l k)]
  have hpl : dec (PlaceArg bs [.sl 1 (rowsB bs), I ((rowsB bs).length : Int)]) = true := dec_true.2 ⟨bs.length, Nat.le_refl _, by rw [hblen]⟩
  have hlc : ((rowsB bs).length : Int).toNat = bs.length := by rw [hblen]; simp
  have hp1 : ∀ (N : Nat) (k : Int), undRows N [itemRow 0 k (placeOf bs bs.length).2] = true := fun N k => undRows_pure N _ rfl
  have hp2 : ∀ (N k : Nat) (z : Int), undRows N (itemsOf bs l k ++ [itemRow 0 z (placeOf bs bs.length).2]) = true := fun N k z => undRows_pure N _ (pure_rows fun r hr => by
    rcases List.mem_append.1 hr with hr | hr
    · obtain ⟨j, _, rfl⟩ := List.mem_map.1 hr; exact pure_item bs l j
    · have : r = itemRow 0 z (placeOf bs bs.length).2 := by simpa using hr
      rw [this]; rfl)
  refine aret_loop2 hcf mixed (pu := noPu) (lf := 3000) (fn := Tryd.f19) (hs := hd19) (H := h19) (id := 0) (c := lp19) (B := tl19) rfl rfl rfl (Nat.le_of_ble_eq_true rfl) (by cases n <;> rfl) (by
      cases n with
      | zero => simp only [ritO, List.all_cons, List.all_nil, Ob.und, hp1, List.length_cons, List.length_nil]; rfl
      | succ k => simp only [ritO, List.all_cons, List.all_nil, Ob.und, hp1, hp2, List.length_cons, List.length_nil]; rfl)
    (ι := Nat) (fun j => ritL bs (toks (seenT l)) (slotI5 j) j) (fun j => obI5 bs l j) (fun j => j ≤ n) (fun j => n - j) 0 (Nat.zero_le _) ?_ ?_
  · exact head_of (L' := ritL bs (toks (seenT l)) (slotI5 0) (0 : Nat)) (rit_head bs (toks l) (toks (seenT l))) (ac (dec_true.2 rfl) rfl) rfl (by rw [hren]; rfl) rfl
  · intro j hj
    by_cases hjn : j < n
    · left
      refine ⟨j + 1, hjn, by omega, ?_⟩
      obtain ⟨i, hi⟩ : ∃ i, (seenF 0 l)[j]? = some i := ⟨_, List.getElem?_eq_getElem (by omega)⟩
      obtain ⟨_, t, ht, hc⟩ := seenF_get l 0 j i hi
      rw [Nat.sub_zero] at ht
      have hrow : (toks (seenT l))[j]? = some [I t.ty, I t.ch, I t.fr, I t.to] := by
        rw [← seenT_rows]
        unfold seenR
        rw [List.getElem?_map, List.getElem?_range (by omega)]
        simp only [Option.map_some, seenAt, hi, ht, tokRow]
      have hfr := fairF_mem hf t (List.mem_of_getElem? ht)
      have p1 : decide ((j : Int) < (toks (seenT l)).length) = true := decide_eq_true (by omega)
      have p2 : (true && dec ((toks (seenT l))[j]? = some [I t.ty, I t.ch, I t.fr, I t.to])) = true := by rw [Bool.true_and]; exact dec_true.2 hrow
      have p3 : dec (PlaceArg bs [.sl 1 (rowsB bs), I t.fr]) = true := dec_true.2 ⟨t.fr.toNat, by omega, by rw [Int.toNat_of_nonneg hfr.1]⟩
      have p5 : dec (IntKind.i64.wrap ((j : Int) + 1) = (j + 1 : Nat)) = true := dec_true.2 ((wrap64 (by omega) (by omega)).trans (by omega))
      have hit : itemAt bs l j = itemRow t.ty j (placeOf bs t.fr.toNat).2 := by simp only [itemAt, hi, ht]
      cases j with
      | zero =>
        refine step_of (L' := ritL bs (toks (seenT l)) (slotI5 1) (1 : Nat)) (ob' := obI5 bs l 1) (rit_s0 bs (toks l) (toks (seenT l)) [] 0 0 t.ty t.ch t.fr t.to) (ac p5 (ac rfl (ac p2 (ac p3 (ac p2 (ac p1 rfl)))))) rfl (by rw [hren]; rfl) ?_
        have e1 : itemsOf bs l 1 = [itemRow t.ty (0 : Nat) (placeOf bs t.fr.toNat).2] := by rw [itemsOf_succ, hit]; rfl
        rw [← e1]
        exact hrenO _ 1
      | succ k =>
        refine step_of (L' := ritL bs (toks (seenT l)) (slotI5 (k + 1 + 1)) (k + 1 + 1 : Nat)) (ob' := obI5 bs l (k + 1 + 1)) (rit_s1 bs (toks l) (toks (seenT l)) (itemsOf bs l (k + 1)) (k + 1) (k + 1) t.ty t.ch t.fr t.to) (ac p5 (ac (andt (andt rfl (nle (by rw [itemsOf_len]; exact Nat.le_refl _))) (andt (andt rfl (nle (by omega))) (nle (by omega)))) (ac p2 (ac p3 (ac p2 (ac p1 rfl)))))) rfl (by rw [hren]; rfl) ?_
        have e1 : itemsOf bs l (k + 1 + 1) = (itemsOf bs l (k + 1)).take (k + 1) ++ [itemRow t.ty (k + 1 : Nat) (placeOf bs t.fr.toNat).2] := by
          rw [List.take_of_length_le (by rw [itemsOf_len]; exact Nat.le_refl _), itemsOf_succ bs l (k + 1), hit]
        rw [← e1]
        exact hrenO _ (k + 1 + 1)
    · right
      obtain rfl : j = n := by omega
      have px : (!decide ((j : Int) < (toks (seenT l)).length)) = true := nd (by omega)
      cases j with
      | zero =>
        refine last_of (rit_l0 bs (toks l) (toks (seenT l)) 0) (ac rfl (ac hpl (ac px rfl))) ?_
        rw [hlc, hql]; rfl
      | succ k =>
        refine last_of (rit_l1 bs (toks l) (toks (seenT l)) (itemsOf bs l (k + 1)) (k + 1) (k + 1)) (ac (andt (andt rfl (nle (by rw [itemsOf_len]; exact Nat.le_refl _))) (andt (andt rfl (nle (by omega))) (nle (by omega)))) (ac hpl (ac px rfl))) ?_
        rw [hlc, hql, List.take_of_length_le (by rw [itemsOf_len]; exact Nat.le_refl _)]; rfl
theorem refItems_ok (bs : List Nat) (l : List Tok) (hb : ∀ b ∈ bs, b < 256) (hl : bs.length ≤ 100000) (hn : l.length ≤ 100000) (hf : FairF bs 0 l) : ARet Tryd.prog 19 [.sl 1 (rowsB bs), .sl 4 (toks l)] [] [] (.sl 5 (itemsOf bs l ((seenF 0 l).length + 1))) [] := by
  have h := rit_raw bs l hb hl hn hf _ rfl
  have hlast : itemAt bs l (seenF 0 l).length = itemRow 0 (seenF 0 l).length (placeOf bs bs.length).2 := by simp [itemAt]
  have e1 := itemsOf_succ bs l (seenF 0 l).length
  rw [hlast] at e1
  generalize hs : (seenF 0 l).length = n at h e1
  cases n with
  | zero => exact aret_slice (o := 1) h (by rw [e1]; rfl) (by rw [itemsOf_len]) (pure_items _ _ _)
  | succ k => exact aret_slice (o := 2) h (by rw [e1]; rfl) (by rw [itemsOf_len]) (pure_items _ _ _)
end Go.Proofs.YtifnhnkogcgnaaaDoor
