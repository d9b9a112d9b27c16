import Derived.Test.YtnjnfdjoonogaaaDoorAcA
set_option linter.unusedVariables false
set_option linter.unusedSimpArgs false
-- DEFS Int.toNat_natCast, aceR, aceS
namespace Go.Proofs.Ac
open Go.RowKit Go.Lib Go.Eng Go.Proofs Go.IntWalk
set_option maxRecDepth 100000
set_option linter.unusedVariables false
set_option maxHeartbeats 2000000
theorem cloneA_spec (l : List Ac) (hl : l.length ≤ 5864062014634) : Eng.Spec Tryd.prog 12 [] [] [.d (.sl 3 (rM aceR l))] [(1000, ⟨0, .arr 3 (rM aceR l)⟩)] (.view 1000 0 0 l.length) := by
  refine nilcase (fun h => ?_) ?_
  · have : l = [] := List.map_eq_nil_iff.1 h
    subst this
    refine told_spec mixed f12_told f12_results f12_text rfl (by simp) rfl ?_
    simp only [initS, List.length_cons, List.length_nil, List.range, List.range.loop, List.getD_cons_zero, List.getD_cons_succ, List.cons_append, List.nil_append, Int.toNat_natCast, aceR, aceS]
    simp -implicitDefEqProofs only [RL0, RL1, RL2, RL3, RL4, RL5, RL6, RL7, RL8, chkW, ↓get_cons', ↓hget_cons', ↓hset_cons', St.gh, isNil, evalA, opTs, LOp.args, Nat.reduceBEq, renS, ren1, ren0, renB, only, sg, gmOf, wrN, buildCells, bsRows, Value.oneCell', setAt, eqCells, eqCell, vI, vB, vS, apartW, Nat.reduceEqDiff, Nat.reduceAdd, Nat.reduceSub, Nat.reduceMul, Nat.reduceLT, Nat.reduceLeDiff, Int.reduceEq, Int.reduceNe, Int.reduceLT, Int.reduceLE, reduceCtorEq, ↓reduceIte, ne_eq, eq_self, and_self, str_eq_iff]
    refine RetOk.of [(1000, 502)] [] ?_ ?_ rfl ?_ rfl rfl ?_
    all_goals simp [ML, args1, arg1, args0, lents1, lent1, lent0, lents0, lentB, rowsM, body0, only, sg, injB, apartB, keysOf, cur, resS, ↓get_cons', ↓hget_cons', Value.oneCell', eq_self, and_self, ne_eq, vI, rK_nil, Int.toNat_natCast, aceR, aceS, rM]
  · refine told_spec mixed f12_told f12_results f12_text rfl (by simp) rfl ?_
    simp only [initS, List.length_cons, List.length_nil, List.range, List.range.loop, List.getD_cons_zero, List.getD_cons_succ, List.cons_append, List.nil_append, Int.toNat_natCast, aceR, aceS]
    simp -implicitDefEqProofs only [RL0, RL1, RL2, RL3, RL4, RL5, RL6, RL7, RL8, chkW, ↓get_cons', ↓hget_cons', ↓hset_cons', St.gh, isNil, evalA, opTs, LOp.args, Nat.reduceBEq, renS, ren1, ren0, renB, only, sg, gmOf, wrN, buildCells, bsRows, Value.oneCell', setAt, eqCells, eqCell, vI, vB, vS, apartW, Nat.reduceEqDiff, Nat.reduceAdd, Nat.reduceSub, Nat.reduceMul, Nat.reduceLT, Nat.reduceLeDiff, Int.reduceEq, Int.reduceNe, Int.reduceLT, Int.reduceLE, reduceCtorEq, ↓reduceIte, ne_eq, eq_self, and_self, str_eq_iff]
    refine ⟨by omega, by omega, ?_⟩
    refine RetOk.of [(1000, 5)] [] ?_ ?_ rfl ?_ rfl rfl ?_
    all_goals simp [ML, args1, arg1, args0, lents1, lent1, lent0, lents0, lentB, rowsM, body0, only, sg, injB, apartB, keysOf, cur, resS, ↓get_cons', ↓hget_cons', Value.oneCell', eq_self, and_self, ne_eq, vI, rK_nil, Int.toNat_natCast, aceR, aceS]
section
variable {α : Type}
/-- One is put in from the right. -/
def insR (lt : α → α → Bool) (x : α) (m : List α) : List α := (m.reverse.dropWhile (lt x)).reverse ++ x :: (m.reverse.takeWhile (lt x)).reverse
def sortR (lt : α → α → Bool) (l : List α) : List α := l.foldl (fun m x => insR lt x m) []
theorem insR_of {lt : α → α → Bool} {x : α} {A B : List α} (h1 : ∀ b ∈ B, lt x b = true) (h2 : ∀ a ∈ A.getLast?, lt x a = false) : insR lt x (A ++ B) = A ++ x :: B := by
  have hb : ∀ b ∈ B.reverse, lt x b = true := fun b hb => h1 b (List.mem_reverse.1 hb)
  have t : A.reverse.takeWhile (lt x) = [] ∧ A.reverse.dropWhile (lt x) = A.reverse := by
    cases hA : A.reverse with
    | nil => exact ⟨rfl, rfl⟩
    | cons a r =>
      have : A.getLast? = some a := by rw [← List.head?_reverse, hA]; rfl
      have hf := h2 a (by rw [this]; rfl)
      exact ⟨by simp [List.takeWhile, hf], by simp [List.dropWhile, hf]⟩
  unfold insR
  rw [List.reverse_append, List.takeWhile_append_of_pos hb, List.dropWhile_append_of_pos hb, t.1, t.2, List.append_nil, List.reverse_reverse, List.reverse_reverse]
theorem insR_len {lt : α → α → Bool} {x : α} {m : List α} : (insR lt x m).length = m.length + 1 := by
  have := congrArg List.length (List.takeWhile_append_dropWhile (p := lt x) (l := m.reverse))
  simp only [List.length_append, List.length_reverse] at this
  unfold insR
  simp only [List.length_append, List.length_cons, List.length_reverse]
  omega
theorem insR_perm {lt : α → α → Bool} {x : α} {m : List α} : (insR lt x m).Perm (x :: m) := by
  have h : m = (m.reverse.dropWhile (lt x)).reverse ++ (m.reverse.takeWhile (lt x)).reverse := by
    rw [← List.reverse_append, List.takeWhile_append_dropWhile, List.reverse_reverse]
  unfold insR
  refine List.perm_middle.trans ?_
  rw [← h]
theorem foldl_perm {lt : α → α → Bool} : ∀ (l m : List α), (l.foldl (fun m x => insR lt x m) m).Perm (m ++ l)
  | [], m => by simp
  | x :: l, m => by
    refine (foldl_perm l (insR lt x m)).trans ?_
    refine ((insR_perm).append_right l).trans ?_
    simpa using (List.perm_middle (a := x) (l₁ := m) (l₂ := l)).symm
theorem sortR_perm {lt : α → α → Bool} (l : List α) : (sortR lt l).Perm l := by have := foldl_perm (lt := lt) l []; rwa [List.nil_append] at this
theorem sortR_len {lt : α → α → Bool} (l : List α) : (sortR lt l).length = l.length := (sortR_perm l).length_eq
theorem sortR_snoc {lt : α → α → Bool} (l : List α) (x : α) : sortR lt (l ++ [x]) = insR lt x (sortR lt l) := by simp [sortR, List.foldl_append]
theorem sortR_step {lt : α → α → Bool} (l : List α) (i : Nat) (h : i < l.length) : sortR lt (l.take (i + 1)) = insR lt l[i] (sortR lt (l.take i)) := by rw [List.take_succ_eq_append_getElem h, sortR_snoc]
end
theorem ace_set (l : List Ac) (k : Nat) (a b c : Int) : (rM aceR l).set k [.v (.int .i64 a), .v (.int .i64 b), .v (.int .i64 c)] = rM aceR (l.set k (a, b, c)) := by simp [rM, List.map_set, aceR]
def ltA (a b : Ac) : Bool := decide (cmpA a b < 0)
theorem ltA_neg (a b : Ac) : cmpA a b < 0 ↔ ltA a b = true := by unfold ltA; simp
theorem isort_spec (l : List Ac) (hl : l.length ≤ 2 ^ 42) : Eng.Spec Tryd.prog 29 [1000] [(1000, ⟨0, .arr 3 (rM aceR l)⟩)] [.view 1000 0 0 l.length, .d (.v (.int .i64 0)), .d (.v (.int .i64 l.length)), .d (.v (.func (.func 14) #[] #[]))]
    [(1000, ⟨0, .arr 3 (rM aceR (sortR ltA l))⟩)] (.tup []) := by
  have hw : l.length ≤ 9223372036854775807 := by omega
  refine told_spec mixed f29_told f29_results f29_text rfl (by simp) rfl ?_
  simp only [initS, List.length_cons, List.length_nil, List.range, List.range.loop, List.getD_cons_zero, List.getD_cons_succ, List.cons_append, List.nil_append, Int.toNat_natCast, aceR, aceS]
  simp -implicitDefEqProofs only [RL0, RL1, RL2, RL3, RL4, RL5, RL6, RL7, RL8, chkW, ↓get_cons', ↓hget_cons', ↓hset_cons', St.gh, isNil, evalA, opTs, LOp.args, Nat.reduceBEq, renS, ren1, ren0, renB, only, sg, gmOf, wrN, buildCells, bsRows, Value.oneCell', setAt, eqCells, eqCell, vI, vB, vS, apartW, Nat.reduceEqDiff, Nat.reduceAdd, Nat.reduceSub, Nat.reduceMul, Nat.reduceLT, Nat.reduceLeDiff, Int.reduceEq, Int.reduceNe, Int.reduceLT, Int.reduceLE, reduceCtorEq, ↓reduceIte, ne_eq, eq_self, and_self, str_eq_iff]
  refine vc_loop (fun i : Nat => ⟨[(0, .view 1000 0 0 l.length), (8, .d (.v (.int .i64 i))), (3, .d (.v (.func (.func 14) #[] #[]))), (1, .d (.v (.int .i64 0))), (2, .d (.v (.int .i64 l.length)))], [(1000, ⟨0, .arr 3 (rM aceR (sortR ltA (l.take i) ++ l.drop i))⟩)]⟩)
    (fun i => 1 ≤ i ∧ (i = 1 ∨ i ≤ l.length)) (fun i => l.length - i) 1 (by omega) ?_ ?_
  · rw [i64_in _ (by omega)]
    cases l with
    | nil => exact LE.refl _ _
    | cons a r => exact LE.refl _ _
  rintro i ⟨h1, h2⟩
  simp -implicitDefEqProofs only [RL0, RL1, RL2, RL3, RL4, RL5, RL6, RL7, RL8, chkW, ↓get_cons', ↓hget_cons', ↓hset_cons', St.gh, isNil, evalA, opTs, LOp.args, Nat.reduceBEq, renS, ren1, ren0, renB, only, sg, gmOf, wrN, buildCells, bsRows, Value.oneCell', setAt, eqCells, eqCell, vI, vB, vS, apartW, Nat.reduceEqDiff, Nat.reduceAdd, Nat.reduceSub, Nat.reduceMul, Nat.reduceLT, Nat.reduceLeDiff, Int.reduceEq, Int.reduceNe, Int.reduceLT, Int.reduceLE, reduceCtorEq, ↓reduceIte, ne_eq, eq_self, and_self, str_eq_iff, Int.toNat_natCast, aceR, aceS]
  have hl1 : (sortR ltA (l.take i) ++ l.drop i).length = l.length := by simp [sortR_len]; omega
  refine ⟨fun hi => ?_, fun hi => ?_⟩
  · have hi : i < l.length := by omega
    refine vc_loop (fun x : Nat × List Ac => ⟨[(9, .d (.v (.int .i64 x.1))), (0, .view 1000 0 0 l.length), (3, .d (.v (.func (.func 14) #[] #[]))), (1, .d (.v (.int .i64 0))), (2, .d (.v (.int .i64 l.length))), (8, .d (.v (.int .i64 i)))], [(1000, ⟨0, .arr 3 (rM aceR x.2)⟩)]⟩)
      (fun x => ∃ A B, A.length = x.1 ∧ A ++ B = sortR ltA (l.take i) ∧ (∀ b ∈ B, ltA l[i] b = true) ∧ x.2 = A ++ l[i] :: (B ++ l.drop (i + 1))) (fun x => x.1) (i, sortR ltA (l.take i) ++ l.drop i)
      ⟨sortR ltA (l.take i), [], by simp [sortR_len]; omega, List.append_nil _, by simp, by rw [List.nil_append, List.drop_eq_getElem_cons hi]⟩ (LE.refl _ _) ?_
    rintro ⟨j, M⟩ ⟨A, B, g1, g2, g3, g4⟩
    simp only at g1 g2 g3 g4
    have hAB : A.length + B.length = i := by rw [← List.length_append, g2, sortR_len, List.length_take]; omega
    have hM : M.length = l.length := by rw [g4]; simp; omega
    have hend : (∀ a ∈ A.getLast?, ltA l[i] a = false) → M = sortR ltA (l.take (i + 1)) ++ l.drop (i + 1) := fun h => by
      rw [sortR_step _ _ hi, ← g2, insR_of g3 h, g4]; simp
    have e1 : IntKind.i64.wrap ((i : Int) + 1) = ((i + 1 : Nat) : Int) := by rw [i64_in _ (by omega)]; omega
    rcases List.eq_nil_or_concat A with rfl | ⟨A', y, hA⟩
    ·
      have hj : j = 0 := by simpa using g1.symm
      subst hj
      simp -implicitDefEqProofs only [RL0, RL1, RL2, RL3, RL4, RL5, RL6, RL7, RL8, chkW, ↓get_cons', ↓hget_cons', ↓hset_cons', St.gh, isNil, evalA, opTs, LOp.args, Nat.reduceBEq, renS, ren1, ren0, renB, only, sg, gmOf, wrN, buildCells, bsRows, Value.oneCell', setAt, eqCells, eqCell, vI, vB, vS, apartW, Nat.reduceEqDiff, Nat.reduceAdd, Nat.reduceSub, Nat.reduceMul, Nat.reduceLT, Nat.reduceLeDiff, Int.reduceEq, Int.reduceNe, Int.reduceLT, Int.reduceLE, reduceCtorEq, ↓reduceIte, ne_eq, eq_self, and_self, str_eq_iff, Int.toNat_natCast, aceR, aceS, e1, Int.natCast_zero, Int.lt_irrefl]
      refine ⟨i + 1, ⟨by omega, by omega⟩, by omega, ?_⟩
      rw [hend (by simp)]
      exact LE.refl _ _
    · rw [List.concat_eq_append] at hA
      subst hA
      obtain ⟨j, rfl⟩ : ∃ k, j = k + 1 := ⟨A'.length, by simpa using g1.symm⟩
      have hj : A'.length = j := by simpa using g1
      have e0 : ((0 : Int) < ((j + 1 : Nat) : Int)) = True := eq_true (by omega)
      have e2 : IntKind.i64.wrap (((j + 1 : Nat) : Int) - 1) = (j : Int) := by rw [i64_in _ (by omega)]; omega
      have r1 : M.getD (j + 1) default = l[i] := by rw [g4, List.getD_eq_getElem?_getD, List.getElem?_append_right (by simp [hj])]; simp [hj]
      have r2 : M.getD j default = y := by rw [g4, List.append_assoc, List.getD_eq_getElem?_getD, List.getElem?_append_right (by omega)]; simp [hj]
      simp -implicitDefEqProofs only [RL0, RL1, RL2, RL3, RL4, RL5, RL6, RL7, RL8, chkW, ↓get_cons', ↓hget_cons', ↓hset_cons', St.gh, isNil, evalA, opTs, LOp.args, Nat.reduceBEq, renS, ren1, ren0, renB, only, sg, gmOf, wrN, buildCells, bsRows, Value.oneCell', setAt, eqCells, eqCell, vI, vB, vS, apartW, Nat.reduceEqDiff, Nat.reduceAdd, Nat.reduceSub, Nat.reduceMul, Nat.reduceLT, Nat.reduceLeDiff, Int.reduceEq, Int.reduceNe, Int.reduceLT, Int.reduceLE, reduceCtorEq, ↓reduceIte, ne_eq, eq_self, and_self, str_eq_iff, Int.toNat_natCast, aceR, aceS, e0, e2, r1, r2]
      refine ⟨by omega, by omega, by omega, by omega, by omega, by omega, by kernel_rfl, ?_⟩
      refine callL_of (aorder_spec l[i] y) [] false [] [] ?_ ?_
      · refine CallOk.of ?_ ?_ rfl ?_ rfl rfl rfl rfl ?_ rfl ?_ rfl
        all_goals simp [ML, args1, arg1, args0, lents1, lent1, lent0, lents0, lentB, rowsM, body0, only, sg, injB, apartB, keysOf, cur, resS, ↓get_cons', ↓hget_cons', Value.oneCell', eq_self, and_self, ne_eq, vI, rK_nil, rK_len, rK_take, rM_len, rM_take, Int.toNat_natCast, aceR, aceS, ace_set, List.length_set, e1, e2, r1, r2]
      simp -implicitDefEqProofs only [RL0, RL1, RL2, RL3, RL4, RL5, RL6, RL7, RL8, chkW, ↓get_cons', ↓hget_cons', ↓hset_cons', St.gh, isNil, evalA, opTs, LOp.args, Nat.reduceBEq, renS, ren1, ren0, renB, only, sg, gmOf, wrN, buildCells, bsRows, Value.oneCell', setAt, eqCells, eqCell, vI, vB, vS, apartW, Nat.reduceEqDiff, Nat.reduceAdd, Nat.reduceSub, Nat.reduceMul, Nat.reduceLT, Nat.reduceLeDiff, Int.reduceEq, Int.reduceNe, Int.reduceLT, Int.reduceLE, reduceCtorEq, ↓reduceIte, ne_eq, eq_self, and_self, str_eq_iff, Int.toNat_natCast, aceR, aceS, ace_set, List.length_set, e1, e2, r1, r2]
      refine ⟨fun hc => ⟨by omega, by omega, by omega, by omega, by omega, by omega, by omega, by omega, by omega, by omega, by omega, by omega, (j, (M.set (j + 1) y).set j l[i]), ⟨A', y :: B, hj, by rw [← g2]; simp, ?_, ?_⟩, by simp only; omega, LE.refl _ _⟩, fun hc => ⟨i + 1, ⟨by omega, by omega⟩, by omega, ?_⟩⟩
      · intro b hb
        rcases List.mem_cons.1 hb with rfl | hb
        · exact (ltA_neg _ _).1 hc
        · exact g3 b hb
      · rw [g4, List.append_assoc, List.set_append_right (h := by omega), List.set_append_right (h := by omega), hj]
        simp
      · rw [hend (fun a ha => by simp at ha; subst ha; rw [Bool.eq_false_iff]; exact fun h => hc ((ltA_neg _ _).2 h))]
        exact LE.refl _ _
  · rw [List.take_of_length_le (by omega), List.drop_of_length_le (by omega), List.append_nil]
    refine RetOk.of [(1000, 1000)] [] ?_ ?_ rfl ?_ rfl rfl ?_
    all_goals simp [ML, args1, arg1, args0, lents1, lent1, lent0, lents0, lentB, rowsM, body0, only, sg, injB, apartB, keysOf, cur, resS, ↓get_cons', ↓hget_cons', Value.oneCell', eq_self, and_self, ne_eq, vI, rK_nil, Int.toNat_natCast, aceR, aceS]
theorem stable_spec (l : List Ac) (hl : l.length < 20) : Eng.Spec Tryd.prog 21 [1000] [(1000, ⟨0, .arr 3 (rM aceR l)⟩)] [.view 1000 0 0 l.length, .d (.v (.int .i64 l.length)), .d (.v (.func (.func 14) #[] #[]))]
    [(1000, ⟨0, .arr 3 (rM aceR (sortR ltA l))⟩)] (.tup []) := by
  have h0 : ((20 : Int) ≤ (l.length : Int)) = False := eq_false (by omega)
  have h1 : ((20 : Int) < (l.length : Int)) = False := eq_false (by omega)
  refine told_spec mixed f21_told f21_results f21_text rfl (by simp) rfl ?_
  simp only [initS, List.length_cons, List.length_nil, List.range, List.range.loop, List.getD_cons_zero, List.getD_cons_succ, List.cons_append, List.nil_append, Int.toNat_natCast, aceR, aceS]
  simp -implicitDefEqProofs only [RL0, RL1, RL2, RL3, RL4, RL5, RL6, RL7, RL8, chkW, ↓get_cons', ↓hget_cons', ↓hset_cons', St.gh, isNil, evalA, opTs, LOp.args, Nat.reduceBEq, renS, ren1, ren0, renB, only, sg, gmOf, wrN, buildCells, bsRows, Value.oneCell', setAt, eqCells, eqCell, vI, vB, vS, apartW, Nat.reduceEqDiff, Nat.reduceAdd, Nat.reduceSub, Nat.reduceMul, Nat.reduceLT, Nat.reduceLeDiff, Int.reduceEq, Int.reduceNe, Int.reduceLT, Int.reduceLE, reduceCtorEq, ↓reduceIte, ne_eq, eq_self, and_self, str_eq_iff]
  refine vc_loop (fun _ : Unit => ⟨[(6, .d (.v (.int .i64 20))), (8, .d (.v (.int .i64 20))), (2, .d (.v (.func (.func 14) #[] #[]))), (7, .d (.v (.int .i64 0))), (0, .view 1000 0 0 l.length), (1, .d (.v (.int .i64 l.length)))], [(1000, ⟨0, .arr 3 (rM aceR l)⟩)]⟩)
    (fun _ => True) (fun _ => 0) () trivial (LE.refl _ _) ?_
  rintro ⟨⟩ -
  simp -implicitDefEqProofs only [RL0, RL1, RL2, RL3, RL4, RL5, RL6, RL7, RL8, chkW, ↓get_cons', ↓hget_cons', ↓hset_cons', St.gh, isNil, evalA, opTs, LOp.args, Nat.reduceBEq, renS, ren1, ren0, renB, only, sg, gmOf, wrN, buildCells, bsRows, Value.oneCell', setAt, eqCells, eqCell, vI, vB, vS, apartW, Nat.reduceEqDiff, Nat.reduceAdd, Nat.reduceSub, Nat.reduceMul, Nat.reduceLT, Nat.reduceLeDiff, Int.reduceEq, Int.reduceNe, Int.reduceLT, Int.reduceLE, reduceCtorEq, ↓reduceIte, ne_eq, eq_self, and_self, str_eq_iff, Int.toNat_natCast, aceR, aceS, h0]
  refine callL_of (isort_spec l (by omega)) [(1000, 1000)] false [] [] ?_ ?_
  · refine CallOk.of ?_ ?_ rfl ?_ rfl rfl rfl rfl ?_ rfl ?_ rfl
    all_goals simp [ML, args1, arg1, args0, lents1, lent1, lent0, lents0, lentB, rowsM, body0, only, sg, injB, apartB, keysOf, cur, resS, ↓get_cons', ↓hget_cons', Value.oneCell', eq_self, and_self, ne_eq, vI, rK_nil, rK_len, rK_take, rM_len, rM_take, Int.toNat_natCast, aceR, aceS]
  simp -implicitDefEqProofs only [RL0, RL1, RL2, RL3, RL4, RL5, RL6, RL7, RL8, chkW, ↓get_cons', ↓hget_cons', ↓hset_cons', St.gh, isNil, evalA, opTs, LOp.args, Nat.reduceBEq, renS, ren1, ren0, renB, only, sg, gmOf, wrN, buildCells, bsRows, Value.oneCell', setAt, eqCells, eqCell, vI, vB, vS, apartW, Nat.reduceEqDiff, Nat.reduceAdd, Nat.reduceSub, Nat.reduceMul, Nat.reduceLT, Nat.reduceLeDiff, Int.reduceEq, Int.reduceNe, Int.reduceLT, Int.reduceLE, reduceCtorEq, ↓reduceIte, ne_eq, eq_self, and_self, str_eq_iff, Int.toNat_natCast, aceR, aceS]
  refine vc_loop (fun _ : Unit => ⟨[(6, .d (.v (.int .i64 20))), (2, .d (.v (.func (.func 14) #[] #[]))), (0, .view 1000 0 0 l.length), (1, .d (.v (.int .i64 l.length)))], [(1000, ⟨0, .arr 3 (rM aceR (sortR ltA l))⟩)]⟩)
    (fun _ => True) (fun _ => 0) () trivial (LE.refl _ _) ?_
  rintro ⟨⟩ -
  simp -implicitDefEqProofs only [RL0, RL1, RL2, RL3, RL4, RL5, RL6, RL7, RL8, chkW, ↓get_cons', ↓hget_cons', ↓hset_cons', St.gh, isNil, evalA, opTs, LOp.args, Nat.reduceBEq, renS, ren1, ren0, renB, only, sg, gmOf, wrN, buildCells, bsRows, Value.oneCell', setAt, eqCells, eqCell, vI, vB, vS, apartW, Nat.reduceEqDiff, Nat.reduceAdd, Nat.reduceSub, Nat.reduceMul, Nat.reduceLT, Nat.reduceLeDiff, Int.reduceEq, Int.reduceNe, Int.reduceLT, Int.reduceLE, reduceCtorEq, ↓reduceIte, ne_eq, eq_self, and_self, str_eq_iff, Int.toNat_natCast, aceR, aceS, h1]
  refine RetOk.of [(1000, 1000)] [] ?_ ?_ rfl ?_ rfl rfl ?_
  all_goals simp [ML, args1, arg1, args0, lents1, lent1, lent0, lents0, lentB, rowsM, body0, only, sg, injB, apartB, keysOf, cur, resS, ↓get_cons', ↓hget_cons', Value.oneCell', eq_self, and_self, ne_eq, vI, rK_nil, Int.toNat_natCast, aceR, aceS]
theorem sort_spec (l : List Ac) (hl : l.length < 20) : Eng.Spec Tryd.prog 13 [1000] [(1000, ⟨0, .arr 3 (rM aceR l)⟩)] [.view 1000 0 0 l.length, .d (.v (.func (.func 14) #[] #[]))]
    [(1000, ⟨0, .arr 3 (rM aceR (sortR ltA l))⟩)] (.tup []) := by
  refine told_spec mixed f13_told f13_results f13_text rfl (by simp) rfl ?_
  simp only [initS, List.length_cons, List.length_nil, List.range, List.range.loop, List.getD_cons_zero, List.getD_cons_succ, List.cons_append, List.nil_append, Int.toNat_natCast, aceR, aceS]
  simp -implicitDefEqProofs only [RL0, RL1, RL2, RL3, RL4, RL5, RL6, RL7, RL8, chkW, ↓get_cons', ↓hget_cons', ↓hset_cons', St.gh, isNil, evalA, opTs, LOp.args, Nat.reduceBEq, renS, ren1, ren0, renB, only, sg, gmOf, wrN, buildCells, bsRows, Value.oneCell', setAt, eqCells, eqCell, vI, vB, vS, apartW, Nat.reduceEqDiff, Nat.reduceAdd, Nat.reduceSub, Nat.reduceMul, Nat.reduceLT, Nat.reduceLeDiff, Int.reduceEq, Int.reduceNe, Int.reduceLT, Int.reduceLE, reduceCtorEq, ↓reduceIte, ne_eq, eq_self, and_self, str_eq_iff]
  refine callL_of (stable_spec l hl) [(1000, 1000)] false [] [] ?_ ?_
  · refine CallOk.of ?_ ?_ rfl ?_ rfl rfl rfl rfl ?_ rfl ?_ rfl
    all_goals simp [ML, args1, arg1, args0, lents1, lent1, lent0, lents0, lentB, rowsM, body0, only, sg, injB, apartB, keysOf, cur, resS, ↓get_cons', ↓hget_cons', Value.oneCell', eq_self, and_self, ne_eq, vI, rK_nil, rK_len, rK_take, rM_len, rM_take, Int.toNat_natCast, aceR, aceS]
  simp -implicitDefEqProofs only [RL0, RL1, RL2, RL3, RL4, RL5, RL6, RL7, RL8, chkW, ↓get_cons', ↓hget_cons', ↓hset_cons', St.gh, isNil, evalA, opTs, LOp.args, Nat.reduceBEq, renS, ren1, ren0, renB, only, sg, gmOf, wrN, buildCells, bsRows, Value.oneCell', setAt, eqCells, eqCell, vI, vB, vS, apartW, Nat.reduceEqDiff, Nat.reduceAdd, Nat.reduceSub, Nat.reduceMul, Nat.reduceLT, Nat.reduceLeDiff, Int.reduceEq, Int.reduceNe, Int.reduceLT, Int.reduceLE, reduceCtorEq, ↓reduceIte, ne_eq, eq_self, and_self, str_eq_iff, Int.toNat_natCast, aceR, aceS]
  refine RetOk.of [(1000, 1000)] [] ?_ ?_ rfl ?_ rfl rfl ?_
  all_goals simp [ML, args1, arg1, args0, lents1, lent1, lent0, lents0, lentB, rowsM, body0, only, sg, injB, apartB, keysOf, cur, resS, ↓get_cons', ↓hget_cons', Value.oneCell', eq_self, and_self, ne_eq, vI, rK_nil, Int.toNat_natCast, aceR, aceS]
end Go.Proofs.Ac
