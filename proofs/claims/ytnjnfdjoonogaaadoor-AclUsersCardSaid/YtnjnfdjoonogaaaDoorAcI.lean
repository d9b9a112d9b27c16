import Derived.Test.YtnjnfdjoonogaaaDoorAcH
set_option linter.unusedVariables false
set_option linter.unusedSimpArgs false
-- DEFS Int.toNat_natCast, aceR, aceS, sh6, sh3, andI_fold, foldM
namespace Go.Proofs.Ac
open Go.RowKit Go.Lib Go.Eng Go.Proofs Go.IntWalk
set_option maxRecDepth 100000
set_option linter.unusedVariables false
set_option maxHeartbeats 4000000
theorem and7_nat : ∀ n : Nat, n < 8 → andI (n : Int) 7 = n := by decide +kernel
theorem and7 (x : Int) (h : 0 ≤ x ∧ x < 8) : andI x 7 = x := by
  obtain ⟨n, rfl⟩ := Int.eq_ofNat_of_zero_le h.1
  exact and7_nat n (by omega)
theorem and77_nat : ∀ n : Nat, n < 64 → ∀ a : Nat, a < 8 → andI (andI (n : Int) 7) (a : Int) = andI (n : Int) (a : Int) := by decide +kernel
theorem and77 (x a : Int) (h : 0 ≤ x ∧ x < 64) (ha : 0 ≤ a ∧ a < 8) : andI (andI x 7) a = andI x a := by
  obtain ⟨n, rfl⟩ := Int.eq_ofNat_of_zero_le h.1
  obtain ⟨k, rfl⟩ := Int.eq_ofNat_of_zero_le ha.1
  exact and77_nat n (by omega) k (by omega)
theorem users_spec (u g mode ask : Int) : Eng.Spec Tryd.prog 5 [] [] [.d (.v (.int .i64 u)), .d (.v (.int .i64 g)), .d (.v (.int .i64 mode)), .d (.v (.int .i64 ask))] [] (.d (.v (.bool true))) := by
  obtain ⟨x, e1, hx⟩ := small_u u 8 (by decide) (by decide)
  obtain ⟨y, e2, hy⟩ := small_u g 8 (by decide) (by decide)
  obtain ⟨o, e4, ho⟩ := small_u mode 512 (by decide) (by decide)
  obtain ⟨a, e5, ha⟩ := small_u ask 8 (by decide) (by decide)
  have hd : 0 ≤ o.fdiv 8 ∧ o.fdiv 8 < 64 := by rw [Int.fdiv_eq_ediv_of_nonneg _ (by decide)]; omega
  have hm : (0 : Int) ≤ 7 ∧ (7 : Int) < 8 := by decide
  have f1 : letsP a (andI x 7) = letsP a x := by rw [and7 x hx]
  have f2 : letsP a (andI y 7) = letsP a y := by rw [and7 y hy]
  have f3 : letsP a (andI (o.fdiv 8) 7) = letsP a (o.fdiv 8) := by unfold letsP; rw [and77 _ _ hd ha]
  refine told_spec mixed f5_told f5_results f5_text rfl (by simp) rfl ?_
  simp only [initS, List.length_cons, List.length_nil, List.range, List.range.loop, List.getD_cons_zero, List.getD_cons_succ, List.cons_append, List.nil_append, Int.toNat_natCast, aceR, aceS, sh6, sh3, andI_fold, foldM]
  simp -implicitDefEqProofs only [RL0, RL1, RL2, RL3, RL4, RL5, RL6, RL7, RL8, chkW, ↓get_cons', ↓hget_cons', ↓hset_cons', St.gh, isNil, evalA, opTs, LOp.args, Nat.reduceBEq, renS, ren1, ren0, renB, only, sg, gmOf, wrN, buildCells, bsRows, Value.oneCell', setAt, eqCells, eqCell, vI, vB, vS, apartW, Nat.reduceEqDiff, Nat.reduceAdd, Nat.reduceSub, Nat.reduceMul, Nat.reduceLT, Nat.reduceLeDiff, Int.reduceEq, Int.reduceNe, Int.reduceLT, Int.reduceLE, reduceCtorEq, ↓reduceIte, ne_eq, eq_self, and_self, str_eq_iff]
  rw [e1, e2, e4, e5]
  simp -implicitDefEqProofs only [RL0, RL1, RL2, RL3, RL4, RL5, RL6, RL7, RL8, chkW, ↓get_cons', ↓hget_cons', ↓hset_cons', St.gh, isNil, evalA, opTs, LOp.args, Nat.reduceBEq, renS, ren1, ren0, renB, only, sg, gmOf, wrN, buildCells, bsRows, Value.oneCell', setAt, eqCells, eqCell, vI, vB, vS, apartW, Nat.reduceEqDiff, Nat.reduceAdd, Nat.reduceSub, Nat.reduceMul, Nat.reduceLT, Nat.reduceLeDiff, Int.reduceEq, Int.reduceNe, Int.reduceLT, Int.reduceLE, reduceCtorEq, ↓reduceIte, ne_eq, eq_self, and_self, str_eq_iff, Int.toNat_natCast, aceR, aceS, sh6, sh3, andI_fold, foldM]
  have k1 := lets_spec (LM x y 7) o 1 2 5 [6, 2] a (by show (3 : Nat) ≤ _; decide) (by simp)
  rw [show letsF (LM x y 7) o 1 2 5 [6, 2] a = letsP a x by rw [lets_LM x y 7 o 5 a [6, 2] hx hy hm ha (by decide), ← f1]; simp [LM, scan]] at k1
  have k2 := lets_spec (LM x y 7) o 1 2 8 [6, 2] a (by show (3 : Nat) ≤ _; decide) (by simp)
  rw [show letsF (LM x y 7) o 1 2 8 [6, 2] a = (letsP a (o.fdiv 8) || letsP a y) by rw [lets_LM x y 7 o 8 a [6, 2] hx hy hm ha (by decide), ← f2, ← f3]; simp [LM, scan]] at k2
  have m0 : mayA [] := by decide +kernel
  have k3 := lets_spec [] o 1 2 8 [2] a (by decide) (by simp)
  rw [show letsF [] o 1 2 8 [2] a = letsP a (o.fdiv 8) by unfold letsF; rw [if_neg (by rintro (q | q | q); exact q m0; omega; omega), ← f3]; simp [scan, maskOf]] at k3
  have k4 := lets_spec [] o 1 2 0 [] a (by decide) (by simp)
  rw [show letsF [] o 1 2 0 [] a = true by unfold letsF; rw [if_neg (by rintro (q | q | q); exact q m0; omega; omega)]; rfl] at k4
  have k5 := lets_spec [] 511 1 2 8 [] 8 (by decide) (by simp)
  rw [show letsF [] 511 1 2 8 [] 8 = false by decide +kernel] at k5
  have tM : List.take 3 (LM x y 7) = LM x y 7 := rfl
  have lM : (LM x y 7).length = 3 := rfl
  have r0 : rM aceR [] = [] := rfl
  by_cases hP : andI y a = a
  · have p1 : (andI y a = a) = True := eq_true hP
    by_cases hQ : andI (o.fdiv 8) a = a
    · have p2 : (andI (o.fdiv 8) a = a) = True := eq_true hQ
      rw [show letsP a (o.fdiv 8) = true from decide_eq_true hQ] at k2 k3
      rw [show letsP a y = true from decide_eq_true hP] at k2
      refine callL_of (k1) [] true [38, 41] [41] ?_ ?_
      · refine CallOk.of ?_ ?_ rfl ?_ rfl rfl rfl rfl ?_ rfl ?_ rfl
        all_goals simp [ML, args1, arg1, args0, lents1, lent1, lent0, lents0, lentB, rowsM, body0, only, sg, injB, apartB, keysOf, cur, resS, ↓get_cons', ↓hget_cons', Value.oneCell', eq_self, and_self, ne_eq, vI, rK_nil, rK_len, rK_take, rM_len, rM_take, Int.toNat_natCast, aceR, aceS, sh6, sh3, andI_fold, foldM, S.flat2, S.flat1, S.flat, Body.flat, rA_flat, tM, lM, rK, List.map, r0]
      simp -implicitDefEqProofs only [RL0, RL1, RL2, RL3, RL4, RL5, RL6, RL7, RL8, chkW, ↓get_cons', ↓hget_cons', ↓hset_cons', St.gh, isNil, evalA, opTs, LOp.args, Nat.reduceBEq, renS, ren1, ren0, renB, only, sg, gmOf, wrN, buildCells, bsRows, Value.oneCell', setAt, eqCells, eqCell, vI, vB, vS, apartW, Nat.reduceEqDiff, Nat.reduceAdd, Nat.reduceSub, Nat.reduceMul, Nat.reduceLT, Nat.reduceLeDiff, Int.reduceEq, Int.reduceNe, Int.reduceLT, Int.reduceLE, reduceCtorEq, ↓reduceIte, ne_eq, eq_self, and_self, str_eq_iff, Int.toNat_natCast, aceR, aceS, sh6, sh3, andI_fold, foldM]
      refine callL_of (k2) [] true [38, 46] [46] ?_ ?_
      · refine CallOk.of ?_ ?_ rfl ?_ rfl rfl rfl rfl ?_ rfl ?_ rfl
        all_goals simp [ML, args1, arg1, args0, lents1, lent1, lent0, lents0, lentB, rowsM, body0, only, sg, injB, apartB, keysOf, cur, resS, ↓get_cons', ↓hget_cons', Value.oneCell', eq_self, and_self, ne_eq, vI, rK_nil, rK_len, rK_take, rM_len, rM_take, Int.toNat_natCast, aceR, aceS, sh6, sh3, andI_fold, foldM, S.flat2, S.flat1, S.flat, Body.flat, rA_flat, tM, lM, rK, List.map, r0]
      simp -implicitDefEqProofs only [RL0, RL1, RL2, RL3, RL4, RL5, RL6, RL7, RL8, chkW, ↓get_cons', ↓hget_cons', ↓hset_cons', St.gh, isNil, evalA, opTs, LOp.args, Nat.reduceBEq, renS, ren1, ren0, renB, only, sg, gmOf, wrN, buildCells, bsRows, Value.oneCell', setAt, eqCells, eqCell, vI, vB, vS, apartW, Nat.reduceEqDiff, Nat.reduceAdd, Nat.reduceSub, Nat.reduceMul, Nat.reduceLT, Nat.reduceLeDiff, Int.reduceEq, Int.reduceNe, Int.reduceLT, Int.reduceLE, reduceCtorEq, ↓reduceIte, ne_eq, eq_self, and_self, str_eq_iff, Int.toNat_natCast, aceR, aceS, sh6, sh3, andI_fold, foldM]
      refine callL_of (k3) [] false [50] [50] ?_ ?_
      · refine CallOk.of ?_ ?_ rfl ?_ rfl rfl rfl rfl ?_ rfl ?_ rfl
        all_goals simp [ML, args1, arg1, args0, lents1, lent1, lent0, lents0, lentB, rowsM, body0, only, sg, injB, apartB, keysOf, cur, resS, ↓get_cons', ↓hget_cons', Value.oneCell', eq_self, and_self, ne_eq, vI, rK_nil, rK_len, rK_take, rM_len, rM_take, Int.toNat_natCast, aceR, aceS, sh6, sh3, andI_fold, foldM, S.flat2, S.flat1, S.flat, Body.flat, rA_flat, tM, lM, rK, List.map, r0]
      simp -implicitDefEqProofs only [RL0, RL1, RL2, RL3, RL4, RL5, RL6, RL7, RL8, chkW, ↓get_cons', ↓hget_cons', ↓hset_cons', St.gh, isNil, evalA, opTs, LOp.args, Nat.reduceBEq, renS, ren1, ren0, renB, only, sg, gmOf, wrN, buildCells, bsRows, Value.oneCell', setAt, eqCells, eqCell, vI, vB, vS, apartW, Nat.reduceEqDiff, Nat.reduceAdd, Nat.reduceSub, Nat.reduceMul, Nat.reduceLT, Nat.reduceLeDiff, Int.reduceEq, Int.reduceNe, Int.reduceLT, Int.reduceLE, reduceCtorEq, ↓reduceIte, ne_eq, eq_self, and_self, str_eq_iff, Int.toNat_natCast, aceR, aceS, sh6, sh3, andI_fold, foldM]
      refine callL_of (told_spec6) [] false [] [] ?_ ?_
      · refine CallOk.of ?_ ?_ rfl ?_ rfl rfl rfl rfl ?_ rfl ?_ rfl
        all_goals simp [ML, args1, arg1, args0, lents1, lent1, lent0, lents0, lentB, rowsM, body0, only, sg, injB, apartB, keysOf, cur, resS, ↓get_cons', ↓hget_cons', Value.oneCell', eq_self, and_self, ne_eq, vI, rK_nil, rK_len, rK_take, rM_len, rM_take, Int.toNat_natCast, aceR, aceS, sh6, sh3, andI_fold, foldM, letsP, p1, p2]
      simp -implicitDefEqProofs only [RL0, RL1, RL2, RL3, RL4, RL5, RL6, RL7, RL8, chkW, ↓get_cons', ↓hget_cons', ↓hset_cons', St.gh, isNil, evalA, opTs, LOp.args, Nat.reduceBEq, renS, ren1, ren0, renB, only, sg, gmOf, wrN, buildCells, bsRows, Value.oneCell', setAt, eqCells, eqCell, vI, vB, vS, apartW, Nat.reduceEqDiff, Nat.reduceAdd, Nat.reduceSub, Nat.reduceMul, Nat.reduceLT, Nat.reduceLeDiff, Int.reduceEq, Int.reduceNe, Int.reduceLT, Int.reduceLE, reduceCtorEq, ↓reduceIte, ne_eq, eq_self, and_self, str_eq_iff, Int.toNat_natCast, aceR, aceS, sh6, sh3, andI_fold, foldM, letsP, p1, p2]
      refine callL_of (k4) [] false [] [] ?_ ?_
      · refine CallOk.of ?_ ?_ rfl ?_ rfl rfl rfl rfl ?_ rfl ?_ rfl
        all_goals simp [ML, args1, arg1, args0, lents1, lent1, lent0, lents0, lentB, rowsM, body0, only, sg, injB, apartB, keysOf, cur, resS, ↓get_cons', ↓hget_cons', Value.oneCell', eq_self, and_self, ne_eq, vI, rK_nil, rK_len, rK_take, rM_len, rM_take, Int.toNat_natCast, aceR, aceS, sh6, sh3, andI_fold, foldM, letsP, p1, p2, S.flat2, S.flat1, S.flat, Body.flat, rA_flat, tM, lM, rK, List.map, r0]
      simp -implicitDefEqProofs only [RL0, RL1, RL2, RL3, RL4, RL5, RL6, RL7, RL8, chkW, ↓get_cons', ↓hget_cons', ↓hset_cons', St.gh, isNil, evalA, opTs, LOp.args, Nat.reduceBEq, renS, ren1, ren0, renB, only, sg, gmOf, wrN, buildCells, bsRows, Value.oneCell', setAt, eqCells, eqCell, vI, vB, vS, apartW, Nat.reduceEqDiff, Nat.reduceAdd, Nat.reduceSub, Nat.reduceMul, Nat.reduceLT, Nat.reduceLeDiff, Int.reduceEq, Int.reduceNe, Int.reduceLT, Int.reduceLE, reduceCtorEq, ↓reduceIte, ne_eq, eq_self, and_self, str_eq_iff, Int.toNat_natCast, aceR, aceS, sh6, sh3, andI_fold, foldM, letsP, p1, p2]
      refine callL_of (k5) [] false [] [] ?_ ?_
      · refine CallOk.of ?_ ?_ rfl ?_ rfl rfl rfl rfl ?_ rfl ?_ rfl
        all_goals simp [ML, args1, arg1, args0, lents1, lent1, lent0, lents0, lentB, rowsM, body0, only, sg, injB, apartB, keysOf, cur, resS, ↓get_cons', ↓hget_cons', Value.oneCell', eq_self, and_self, ne_eq, vI, rK_nil, rK_len, rK_take, rM_len, rM_take, Int.toNat_natCast, aceR, aceS, sh6, sh3, andI_fold, foldM, letsP, p1, p2, S.flat2, S.flat1, S.flat, Body.flat, rA_flat, tM, lM, rK, List.map, r0]
      simp -implicitDefEqProofs only [RL0, RL1, RL2, RL3, RL4, RL5, RL6, RL7, RL8, chkW, ↓get_cons', ↓hget_cons', ↓hset_cons', St.gh, isNil, evalA, opTs, LOp.args, Nat.reduceBEq, renS, ren1, ren0, renB, only, sg, gmOf, wrN, buildCells, bsRows, Value.oneCell', setAt, eqCells, eqCell, vI, vB, vS, apartW, Nat.reduceEqDiff, Nat.reduceAdd, Nat.reduceSub, Nat.reduceMul, Nat.reduceLT, Nat.reduceLeDiff, Int.reduceEq, Int.reduceNe, Int.reduceLT, Int.reduceLE, reduceCtorEq, ↓reduceIte, ne_eq, eq_self, and_self, str_eq_iff, Int.toNat_natCast, aceR, aceS, sh6, sh3, andI_fold, foldM, letsP, p1, p2]
      refine RetOk.of [] [] ?_ ?_ rfl ?_ rfl rfl ?_
      all_goals simp [ML, args1, arg1, args0, lents1, lent1, lent0, lents0, lentB, rowsM, body0, only, sg, injB, apartB, keysOf, cur, resS, ↓get_cons', ↓hget_cons', Value.oneCell', eq_self, and_self, ne_eq, vI, rK_nil, Int.toNat_natCast, aceR, aceS, sh6, sh3, andI_fold, foldM]
    · have p2 : (andI (o.fdiv 8) a = a) = False := eq_false hQ
      rw [show letsP a (o.fdiv 8) = false from decide_eq_false hQ] at k2 k3
      rw [show letsP a y = true from decide_eq_true hP] at k2
      refine callL_of (k1) [] true [38, 41] [41] ?_ ?_
      · refine CallOk.of ?_ ?_ rfl ?_ rfl rfl rfl rfl ?_ rfl ?_ rfl
        all_goals simp [ML, args1, arg1, args0, lents1, lent1, lent0, lents0, lentB, rowsM, body0, only, sg, injB, apartB, keysOf, cur, resS, ↓get_cons', ↓hget_cons', Value.oneCell', eq_self, and_self, ne_eq, vI, rK_nil, rK_len, rK_take, rM_len, rM_take, Int.toNat_natCast, aceR, aceS, sh6, sh3, andI_fold, foldM, S.flat2, S.flat1, S.flat, Body.flat, rA_flat, tM, lM, rK, List.map, r0]
      simp -implicitDefEqProofs only [RL0, RL1, RL2, RL3, RL4, RL5, RL6, RL7, RL8, chkW, ↓get_cons', ↓hget_cons', ↓hset_cons', St.gh, isNil, evalA, opTs, LOp.args, Nat.reduceBEq, renS, ren1, ren0, renB, only, sg, gmOf, wrN, buildCells, bsRows, Value.oneCell', setAt, eqCells, eqCell, vI, vB, vS, apartW, Nat.reduceEqDiff, Nat.reduceAdd, Nat.reduceSub, Nat.reduceMul, Nat.reduceLT, Nat.reduceLeDiff, Int.reduceEq, Int.reduceNe, Int.reduceLT, Int.reduceLE, reduceCtorEq, ↓reduceIte, ne_eq, eq_self, and_self, str_eq_iff, Int.toNat_natCast, aceR, aceS, sh6, sh3, andI_fold, foldM]
      refine callL_of (k2) [] true [38, 46] [46] ?_ ?_
      · refine CallOk.of ?_ ?_ rfl ?_ rfl rfl rfl rfl ?_ rfl ?_ rfl
        all_goals simp [ML, args1, arg1, args0, lents1, lent1, lent0, lents0, lentB, rowsM, body0, only, sg, injB, apartB, keysOf, cur, resS, ↓get_cons', ↓hget_cons', Value.oneCell', eq_self, and_self, ne_eq, vI, rK_nil, rK_len, rK_take, rM_len, rM_take, Int.toNat_natCast, aceR, aceS, sh6, sh3, andI_fold, foldM, S.flat2, S.flat1, S.flat, Body.flat, rA_flat, tM, lM, rK, List.map, r0]
      simp -implicitDefEqProofs only [RL0, RL1, RL2, RL3, RL4, RL5, RL6, RL7, RL8, chkW, ↓get_cons', ↓hget_cons', ↓hset_cons', St.gh, isNil, evalA, opTs, LOp.args, Nat.reduceBEq, renS, ren1, ren0, renB, only, sg, gmOf, wrN, buildCells, bsRows, Value.oneCell', setAt, eqCells, eqCell, vI, vB, vS, apartW, Nat.reduceEqDiff, Nat.reduceAdd, Nat.reduceSub, Nat.reduceMul, Nat.reduceLT, Nat.reduceLeDiff, Int.reduceEq, Int.reduceNe, Int.reduceLT, Int.reduceLE, reduceCtorEq, ↓reduceIte, ne_eq, eq_self, and_self, str_eq_iff, Int.toNat_natCast, aceR, aceS, sh6, sh3, andI_fold, foldM]
      refine callL_of (k3) [] false [50] [50] ?_ ?_
      · refine CallOk.of ?_ ?_ rfl ?_ rfl rfl rfl rfl ?_ rfl ?_ rfl
        all_goals simp [ML, args1, arg1, args0, lents1, lent1, lent0, lents0, lentB, rowsM, body0, only, sg, injB, apartB, keysOf, cur, resS, ↓get_cons', ↓hget_cons', Value.oneCell', eq_self, and_self, ne_eq, vI, rK_nil, rK_len, rK_take, rM_len, rM_take, Int.toNat_natCast, aceR, aceS, sh6, sh3, andI_fold, foldM, S.flat2, S.flat1, S.flat, Body.flat, rA_flat, tM, lM, rK, List.map, r0]
      simp -implicitDefEqProofs only [RL0, RL1, RL2, RL3, RL4, RL5, RL6, RL7, RL8, chkW, ↓get_cons', ↓hget_cons', ↓hset_cons', St.gh, isNil, evalA, opTs, LOp.args, Nat.reduceBEq, renS, ren1, ren0, renB, only, sg, gmOf, wrN, buildCells, bsRows, Value.oneCell', setAt, eqCells, eqCell, vI, vB, vS, apartW, Nat.reduceEqDiff, Nat.reduceAdd, Nat.reduceSub, Nat.reduceMul, Nat.reduceLT, Nat.reduceLeDiff, Int.reduceEq, Int.reduceNe, Int.reduceLT, Int.reduceLE, reduceCtorEq, ↓reduceIte, ne_eq, eq_self, and_self, str_eq_iff, Int.toNat_natCast, aceR, aceS, sh6, sh3, andI_fold, foldM]
      refine callL_of (told_spec6) [] false [] [] ?_ ?_
      · refine CallOk.of ?_ ?_ rfl ?_ rfl rfl rfl rfl ?_ rfl ?_ rfl
        all_goals simp [ML, args1, arg1, args0, lents1, lent1, lent0, lents0, lentB, rowsM, body0, only, sg, injB, apartB, keysOf, cur, resS, ↓get_cons', ↓hget_cons', Value.oneCell', eq_self, and_self, ne_eq, vI, rK_nil, rK_len, rK_take, rM_len, rM_take, Int.toNat_natCast, aceR, aceS, sh6, sh3, andI_fold, foldM, letsP, p1, p2]
      simp -implicitDefEqProofs only [RL0, RL1, RL2, RL3, RL4, RL5, RL6, RL7, RL8, chkW, ↓get_cons', ↓hget_cons', ↓hset_cons', St.gh, isNil, evalA, opTs, LOp.args, Nat.reduceBEq, renS, ren1, ren0, renB, only, sg, gmOf, wrN, buildCells, bsRows, Value.oneCell', setAt, eqCells, eqCell, vI, vB, vS, apartW, Nat.reduceEqDiff, Nat.reduceAdd, Nat.reduceSub, Nat.reduceMul, Nat.reduceLT, Nat.reduceLeDiff, Int.reduceEq, Int.reduceNe, Int.reduceLT, Int.reduceLE, reduceCtorEq, ↓reduceIte, ne_eq, eq_self, and_self, str_eq_iff, Int.toNat_natCast, aceR, aceS, sh6, sh3, andI_fold, foldM, letsP, p1, p2]
      refine callL_of (k4) [] false [] [] ?_ ?_
      · refine CallOk.of ?_ ?_ rfl ?_ rfl rfl rfl rfl ?_ rfl ?_ rfl
        all_goals simp [ML, args1, arg1, args0, lents1, lent1, lent0, lents0, lentB, rowsM, body0, only, sg, injB, apartB, keysOf, cur, resS, ↓get_cons', ↓hget_cons', Value.oneCell', eq_self, and_self, ne_eq, vI, rK_nil, rK_len, rK_take, rM_len, rM_take, Int.toNat_natCast, aceR, aceS, sh6, sh3, andI_fold, foldM, letsP, p1, p2, S.flat2, S.flat1, S.flat, Body.flat, rA_flat, tM, lM, rK, List.map, r0]
      simp -implicitDefEqProofs only [RL0, RL1, RL2, RL3, RL4, RL5, RL6, RL7, RL8, chkW, ↓get_cons', ↓hget_cons', ↓hset_cons', St.gh, isNil, evalA, opTs, LOp.args, Nat.reduceBEq, renS, ren1, ren0, renB, only, sg, gmOf, wrN, buildCells, bsRows, Value.oneCell', setAt, eqCells, eqCell, vI, vB, vS, apartW, Nat.reduceEqDiff, Nat.reduceAdd, Nat.reduceSub, Nat.reduceMul, Nat.reduceLT, Nat.reduceLeDiff, Int.reduceEq, Int.reduceNe, Int.reduceLT, Int.reduceLE, reduceCtorEq, ↓reduceIte, ne_eq, eq_self, and_self, str_eq_iff, Int.toNat_natCast, aceR, aceS, sh6, sh3, andI_fold, foldM, letsP, p1, p2]
      refine callL_of (k5) [] false [] [] ?_ ?_
      · refine CallOk.of ?_ ?_ rfl ?_ rfl rfl rfl rfl ?_ rfl ?_ rfl
        all_goals simp [ML, args1, arg1, args0, lents1, lent1, lent0, lents0, lentB, rowsM, body0, only, sg, injB, apartB, keysOf, cur, resS, ↓get_cons', ↓hget_cons', Value.oneCell', eq_self, and_self, ne_eq, vI, rK_nil, rK_len, rK_take, rM_len, rM_take, Int.toNat_natCast, aceR, aceS, sh6, sh3, andI_fold, foldM, letsP, p1, p2, S.flat2, S.flat1, S.flat, Body.flat, rA_flat, tM, lM, rK, List.map, r0]
      simp -implicitDefEqProofs only [RL0, RL1, RL2, RL3, RL4, RL5, RL6, RL7, RL8, chkW, ↓get_cons', ↓hget_cons', ↓hset_cons', St.gh, isNil, evalA, opTs, LOp.args, Nat.reduceBEq, renS, ren1, ren0, renB, only, sg, gmOf, wrN, buildCells, bsRows, Value.oneCell', setAt, eqCells, eqCell, vI, vB, vS, apartW, Nat.reduceEqDiff, Nat.reduceAdd, Nat.reduceSub, Nat.reduceMul, Nat.reduceLT, Nat.reduceLeDiff, Int.reduceEq, Int.reduceNe, Int.reduceLT, Int.reduceLE, reduceCtorEq, ↓reduceIte, ne_eq, eq_self, and_self, str_eq_iff, Int.toNat_natCast, aceR, aceS, sh6, sh3, andI_fold, foldM, letsP, p1, p2]
      refine RetOk.of [] [] ?_ ?_ rfl ?_ rfl rfl ?_
      all_goals simp [ML, args1, arg1, args0, lents1, lent1, lent0, lents0, lentB, rowsM, body0, only, sg, injB, apartB, keysOf, cur, resS, ↓get_cons', ↓hget_cons', Value.oneCell', eq_self, and_self, ne_eq, vI, rK_nil, Int.toNat_natCast, aceR, aceS, sh6, sh3, andI_fold, foldM]
  · have p1 : (andI y a = a) = False := eq_false hP
    by_cases hQ : andI (o.fdiv 8) a = a
    · have p2 : (andI (o.fdiv 8) a = a) = True := eq_true hQ
      rw [show letsP a (o.fdiv 8) = true from decide_eq_true hQ] at k2 k3
      rw [show letsP a y = false from decide_eq_false hP] at k2
      refine callL_of (k1) [] true [38, 41] [41] ?_ ?_
      · refine CallOk.of ?_ ?_ rfl ?_ rfl rfl rfl rfl ?_ rfl ?_ rfl
        all_goals simp [ML, args1, arg1, args0, lents1, lent1, lent0, lents0, lentB, rowsM, body0, only, sg, injB, apartB, keysOf, cur, resS, ↓get_cons', ↓hget_cons', Value.oneCell', eq_self, and_self, ne_eq, vI, rK_nil, rK_len, rK_take, rM_len, rM_take, Int.toNat_natCast, aceR, aceS, sh6, sh3, andI_fold, foldM, S.flat2, S.flat1, S.flat, Body.flat, rA_flat, tM, lM, rK, List.map, r0]
      simp -implicitDefEqProofs only [RL0, RL1, RL2, RL3, RL4, RL5, RL6, RL7, RL8, chkW, ↓get_cons', ↓hget_cons', ↓hset_cons', St.gh, isNil, evalA, opTs, LOp.args, Nat.reduceBEq, renS, ren1, ren0, renB, only, sg, gmOf, wrN, buildCells, bsRows, Value.oneCell', setAt, eqCells, eqCell, vI, vB, vS, apartW, Nat.reduceEqDiff, Nat.reduceAdd, Nat.reduceSub, Nat.reduceMul, Nat.reduceLT, Nat.reduceLeDiff, Int.reduceEq, Int.reduceNe, Int.reduceLT, Int.reduceLE, reduceCtorEq, ↓reduceIte, ne_eq, eq_self, and_self, str_eq_iff, Int.toNat_natCast, aceR, aceS, sh6, sh3, andI_fold, foldM]
      refine callL_of (k2) [] true [38, 46] [46] ?_ ?_
      · refine CallOk.of ?_ ?_ rfl ?_ rfl rfl rfl rfl ?_ rfl ?_ rfl
        all_goals simp [ML, args1, arg1, args0, lents1, lent1, lent0, lents0, lentB, rowsM, body0, only, sg, injB, apartB, keysOf, cur, resS, ↓get_cons', ↓hget_cons', Value.oneCell', eq_self, and_self, ne_eq, vI, rK_nil, rK_len, rK_take, rM_len, rM_take, Int.toNat_natCast, aceR, aceS, sh6, sh3, andI_fold, foldM, S.flat2, S.flat1, S.flat, Body.flat, rA_flat, tM, lM, rK, List.map, r0]
      simp -implicitDefEqProofs only [RL0, RL1, RL2, RL3, RL4, RL5, RL6, RL7, RL8, chkW, ↓get_cons', ↓hget_cons', ↓hset_cons', St.gh, isNil, evalA, opTs, LOp.args, Nat.reduceBEq, renS, ren1, ren0, renB, only, sg, gmOf, wrN, buildCells, bsRows, Value.oneCell', setAt, eqCells, eqCell, vI, vB, vS, apartW, Nat.reduceEqDiff, Nat.reduceAdd, Nat.reduceSub, Nat.reduceMul, Nat.reduceLT, Nat.reduceLeDiff, Int.reduceEq, Int.reduceNe, Int.reduceLT, Int.reduceLE, reduceCtorEq, ↓reduceIte, ne_eq, eq_self, and_self, str_eq_iff, Int.toNat_natCast, aceR, aceS, sh6, sh3, andI_fold, foldM]
      refine callL_of (k3) [] false [50] [50] ?_ ?_
      · refine CallOk.of ?_ ?_ rfl ?_ rfl rfl rfl rfl ?_ rfl ?_ rfl
        all_goals simp [ML, args1, arg1, args0, lents1, lent1, lent0, lents0, lentB, rowsM, body0, only, sg, injB, apartB, keysOf, cur, resS, ↓get_cons', ↓hget_cons', Value.oneCell', eq_self, and_self, ne_eq, vI, rK_nil, rK_len, rK_take, rM_len, rM_take, Int.toNat_natCast, aceR, aceS, sh6, sh3, andI_fold, foldM, S.flat2, S.flat1, S.flat, Body.flat, rA_flat, tM, lM, rK, List.map, r0]
      simp -implicitDefEqProofs only [RL0, RL1, RL2, RL3, RL4, RL5, RL6, RL7, RL8, chkW, ↓get_cons', ↓hget_cons', ↓hset_cons', St.gh, isNil, evalA, opTs, LOp.args, Nat.reduceBEq, renS, ren1, ren0, renB, only, sg, gmOf, wrN, buildCells, bsRows, Value.oneCell', setAt, eqCells, eqCell, vI, vB, vS, apartW, Nat.reduceEqDiff, Nat.reduceAdd, Nat.reduceSub, Nat.reduceMul, Nat.reduceLT, Nat.reduceLeDiff, Int.reduceEq, Int.reduceNe, Int.reduceLT, Int.reduceLE, reduceCtorEq, ↓reduceIte, ne_eq, eq_self, and_self, str_eq_iff, Int.toNat_natCast, aceR, aceS, sh6, sh3, andI_fold, foldM]
      refine callL_of (told_spec6) [] false [] [] ?_ ?_
      · refine CallOk.of ?_ ?_ rfl ?_ rfl rfl rfl rfl ?_ rfl ?_ rfl
        all_goals simp [ML, args1, arg1, args0, lents1, lent1, lent0, lents0, lentB, rowsM, body0, only, sg, injB, apartB, keysOf, cur, resS, ↓get_cons', ↓hget_cons', Value.oneCell', eq_self, and_self, ne_eq, vI, rK_nil, rK_len, rK_take, rM_len, rM_take, Int.toNat_natCast, aceR, aceS, sh6, sh3, andI_fold, foldM, letsP, p1, p2]
      simp -implicitDefEqProofs only [RL0, RL1, RL2, RL3, RL4, RL5, RL6, RL7, RL8, chkW, ↓get_cons', ↓hget_cons', ↓hset_cons', St.gh, isNil, evalA, opTs, LOp.args, Nat.reduceBEq, renS, ren1, ren0, renB, only, sg, gmOf, wrN, buildCells, bsRows, Value.oneCell', setAt, eqCells, eqCell, vI, vB, vS, apartW, Nat.reduceEqDiff, Nat.reduceAdd, Nat.reduceSub, Nat.reduceMul, Nat.reduceLT, Nat.reduceLeDiff, Int.reduceEq, Int.reduceNe, Int.reduceLT, Int.reduceLE, reduceCtorEq, ↓reduceIte, ne_eq, eq_self, and_self, str_eq_iff, Int.toNat_natCast, aceR, aceS, sh6, sh3, andI_fold, foldM, letsP, p1, p2]
      refine callL_of (k4) [] false [] [] ?_ ?_
      · refine CallOk.of ?_ ?_ rfl ?_ rfl rfl rfl rfl ?_ rfl ?_ rfl
        all_goals simp [ML, args1, arg1, args0, lents1, lent1, lent0, lents0, lentB, rowsM, body0, only, sg, injB, apartB, keysOf, cur, resS, ↓get_cons', ↓hget_cons', Value.oneCell', eq_self, and_self, ne_eq, vI, rK_nil, rK_len, rK_take, rM_len, rM_take, Int.toNat_natCast, aceR, aceS, sh6, sh3, andI_fold, foldM, letsP, p1, p2, S.flat2, S.flat1, S.flat, Body.flat, rA_flat, tM, lM, rK, List.map, r0]
      simp -implicitDefEqProofs only [RL0, RL1, RL2, RL3, RL4, RL5, RL6, RL7, RL8, chkW, ↓get_cons', ↓hget_cons', ↓hset_cons', St.gh, isNil, evalA, opTs, LOp.args, Nat.reduceBEq, renS, ren1, ren0, renB, only, sg, gmOf, wrN, buildCells, bsRows, Value.oneCell', setAt, eqCells, eqCell, vI, vB, vS, apartW, Nat.reduceEqDiff, Nat.reduceAdd, Nat.reduceSub, Nat.reduceMul, Nat.reduceLT, Nat.reduceLeDiff, Int.reduceEq, Int.reduceNe, Int.reduceLT, Int.reduceLE, reduceCtorEq, ↓reduceIte, ne_eq, eq_self, and_self, str_eq_iff, Int.toNat_natCast, aceR, aceS, sh6, sh3, andI_fold, foldM, letsP, p1, p2]
      refine callL_of (k5) [] false [] [] ?_ ?_
      · refine CallOk.of ?_ ?_ rfl ?_ rfl rfl rfl rfl ?_ rfl ?_ rfl
        all_goals simp [ML, args1, arg1, args0, lents1, lent1, lent0, lents0, lentB, rowsM, body0, only, sg, injB, apartB, keysOf, cur, resS, ↓get_cons', ↓hget_cons', Value.oneCell', eq_self, and_self, ne_eq, vI, rK_nil, rK_len, rK_take, rM_len, rM_take, Int.toNat_natCast, aceR, aceS, sh6, sh3, andI_fold, foldM, letsP, p1, p2, S.flat2, S.flat1, S.flat, Body.flat, rA_flat, tM, lM, rK, List.map, r0]
      simp -implicitDefEqProofs only [RL0, RL1, RL2, RL3, RL4, RL5, RL6, RL7, RL8, chkW, ↓get_cons', ↓hget_cons', ↓hset_cons', St.gh, isNil, evalA, opTs, LOp.args, Nat.reduceBEq, renS, ren1, ren0, renB, only, sg, gmOf, wrN, buildCells, bsRows, Value.oneCell', setAt, eqCells, eqCell, vI, vB, vS, apartW, Nat.reduceEqDiff, Nat.reduceAdd, Nat.reduceSub, Nat.reduceMul, Nat.reduceLT, Nat.reduceLeDiff, Int.reduceEq, Int.reduceNe, Int.reduceLT, Int.reduceLE, reduceCtorEq, ↓reduceIte, ne_eq, eq_self, and_self, str_eq_iff, Int.toNat_natCast, aceR, aceS, sh6, sh3, andI_fold, foldM, letsP, p1, p2]
      refine RetOk.of [] [] ?_ ?_ rfl ?_ rfl rfl ?_
      all_goals simp [ML, args1, arg1, args0, lents1, lent1, lent0, lents0, lentB, rowsM, body0, only, sg, injB, apartB, keysOf, cur, resS, ↓get_cons', ↓hget_cons', Value.oneCell', eq_self, and_self, ne_eq, vI, rK_nil, Int.toNat_natCast, aceR, aceS, sh6, sh3, andI_fold, foldM]
    · have p2 : (andI (o.fdiv 8) a = a) = False := eq_false hQ
      rw [show letsP a (o.fdiv 8) = false from decide_eq_false hQ] at k2 k3
      rw [show letsP a y = false from decide_eq_false hP] at k2
      refine callL_of (k1) [] true [38, 41] [41] ?_ ?_
      · refine CallOk.of ?_ ?_ rfl ?_ rfl rfl rfl rfl ?_ rfl ?_ rfl
        all_goals simp [ML, args1, arg1, args0, lents1, lent1, lent0, lents0, lentB, rowsM, body0, only, sg, injB, apartB, keysOf, cur, resS, ↓get_cons', ↓hget_cons', Value.oneCell', eq_self, and_self, ne_eq, vI, rK_nil, rK_len, rK_take, rM_len, rM_take, Int.toNat_natCast, aceR, aceS, sh6, sh3, andI_fold, foldM, S.flat2, S.flat1, S.flat, Body.flat, rA_flat, tM, lM, rK, List.map, r0]
      simp -implicitDefEqProofs only [RL0, RL1, RL2, RL3, RL4, RL5, RL6, RL7, RL8, chkW, ↓get_cons', ↓hget_cons', ↓hset_cons', St.gh, isNil, evalA, opTs, LOp.args, Nat.reduceBEq, renS, ren1, ren0, renB, only, sg, gmOf, wrN, buildCells, bsRows, Value.oneCell', setAt, eqCells, eqCell, vI, vB, vS, apartW, Nat.reduceEqDiff, Nat.reduceAdd, Nat.reduceSub, Nat.reduceMul, Nat.reduceLT, Nat.reduceLeDiff, Int.reduceEq, Int.reduceNe, Int.reduceLT, Int.reduceLE, reduceCtorEq, ↓reduceIte, ne_eq, eq_self, and_self, str_eq_iff, Int.toNat_natCast, aceR, aceS, sh6, sh3, andI_fold, foldM]
      refine callL_of (k2) [] true [38, 46] [46] ?_ ?_
      · refine CallOk.of ?_ ?_ rfl ?_ rfl rfl rfl rfl ?_ rfl ?_ rfl
        all_goals simp [ML, args1, arg1, args0, lents1, lent1, lent0, lents0, lentB, rowsM, body0, only, sg, injB, apartB, keysOf, cur, resS, ↓get_cons', ↓hget_cons', Value.oneCell', eq_self, and_self, ne_eq, vI, rK_nil, rK_len, rK_take, rM_len, rM_take, Int.toNat_natCast, aceR, aceS, sh6, sh3, andI_fold, foldM, S.flat2, S.flat1, S.flat, Body.flat, rA_flat, tM, lM, rK, List.map, r0]
      simp -implicitDefEqProofs only [RL0, RL1, RL2, RL3, RL4, RL5, RL6, RL7, RL8, chkW, ↓get_cons', ↓hget_cons', ↓hset_cons', St.gh, isNil, evalA, opTs, LOp.args, Nat.reduceBEq, renS, ren1, ren0, renB, only, sg, gmOf, wrN, buildCells, bsRows, Value.oneCell', setAt, eqCells, eqCell, vI, vB, vS, apartW, Nat.reduceEqDiff, Nat.reduceAdd, Nat.reduceSub, Nat.reduceMul, Nat.reduceLT, Nat.reduceLeDiff, Int.reduceEq, Int.reduceNe, Int.reduceLT, Int.reduceLE, reduceCtorEq, ↓reduceIte, ne_eq, eq_self, and_self, str_eq_iff, Int.toNat_natCast, aceR, aceS, sh6, sh3, andI_fold, foldM]
      refine callL_of (k3) [] false [50] [50] ?_ ?_
      · refine CallOk.of ?_ ?_ rfl ?_ rfl rfl rfl rfl ?_ rfl ?_ rfl
        all_goals simp [ML, args1, arg1, args0, lents1, lent1, lent0, lents0, lentB, rowsM, body0, only, sg, injB, apartB, keysOf, cur, resS, ↓get_cons', ↓hget_cons', Value.oneCell', eq_self, and_self, ne_eq, vI, rK_nil, rK_len, rK_take, rM_len, rM_take, Int.toNat_natCast, aceR, aceS, sh6, sh3, andI_fold, foldM, S.flat2, S.flat1, S.flat, Body.flat, rA_flat, tM, lM, rK, List.map, r0]
      simp -implicitDefEqProofs only [RL0, RL1, RL2, RL3, RL4, RL5, RL6, RL7, RL8, chkW, ↓get_cons', ↓hget_cons', ↓hset_cons', St.gh, isNil, evalA, opTs, LOp.args, Nat.reduceBEq, renS, ren1, ren0, renB, only, sg, gmOf, wrN, buildCells, bsRows, Value.oneCell', setAt, eqCells, eqCell, vI, vB, vS, apartW, Nat.reduceEqDiff, Nat.reduceAdd, Nat.reduceSub, Nat.reduceMul, Nat.reduceLT, Nat.reduceLeDiff, Int.reduceEq, Int.reduceNe, Int.reduceLT, Int.reduceLE, reduceCtorEq, ↓reduceIte, ne_eq, eq_self, and_self, str_eq_iff, Int.toNat_natCast, aceR, aceS, sh6, sh3, andI_fold, foldM]
      refine callL_of (told_spec6) [] false [] [] ?_ ?_
      · refine CallOk.of ?_ ?_ rfl ?_ rfl rfl rfl rfl ?_ rfl ?_ rfl
        all_goals simp [ML, args1, arg1, args0, lents1, lent1, lent0, lents0, lentB, rowsM, body0, only, sg, injB, apartB, keysOf, cur, resS, ↓get_cons', ↓hget_cons', Value.oneCell', eq_self, and_self, ne_eq, vI, rK_nil, rK_len, rK_take, rM_len, rM_take, Int.toNat_natCast, aceR, aceS, sh6, sh3, andI_fold, foldM, letsP, p1, p2]
      simp -implicitDefEqProofs only [RL0, RL1, RL2, RL3, RL4, RL5, RL6, RL7, RL8, chkW, ↓get_cons', ↓hget_cons', ↓hset_cons', St.gh, isNil, evalA, opTs, LOp.args, Nat.reduceBEq, renS, ren1, ren0, renB, only, sg, gmOf, wrN, buildCells, bsRows, Value.oneCell', setAt, eqCells, eqCell, vI, vB, vS, apartW, Nat.reduceEqDiff, Nat.reduceAdd, Nat.reduceSub, Nat.reduceMul, Nat.reduceLT, Nat.reduceLeDiff, Int.reduceEq, Int.reduceNe, Int.reduceLT, Int.reduceLE, reduceCtorEq, ↓reduceIte, ne_eq, eq_self, and_self, str_eq_iff, Int.toNat_natCast, aceR, aceS, sh6, sh3, andI_fold, foldM, letsP, p1, p2]
      refine callL_of (k4) [] false [] [] ?_ ?_
      · refine CallOk.of ?_ ?_ rfl ?_ rfl rfl rfl rfl ?_ rfl ?_ rfl
        all_goals simp [ML, args1, arg1, args0, lents1, lent1, lent0, lents0, lentB, rowsM, body0, only, sg, injB, apartB, keysOf, cur, resS, ↓get_cons', ↓hget_cons', Value.oneCell', eq_self, and_self, ne_eq, vI, rK_nil, rK_len, rK_take, rM_len, rM_take, Int.toNat_natCast, aceR, aceS, sh6, sh3, andI_fold, foldM, letsP, p1, p2, S.flat2, S.flat1, S.flat, Body.flat, rA_flat, tM, lM, rK, List.map, r0]
      simp -implicitDefEqProofs only [RL0, RL1, RL2, RL3, RL4, RL5, RL6, RL7, RL8, chkW, ↓get_cons', ↓hget_cons', ↓hset_cons', St.gh, isNil, evalA, opTs, LOp.args, Nat.reduceBEq, renS, ren1, ren0, renB, only, sg, gmOf, wrN, buildCells, bsRows, Value.oneCell', setAt, eqCells, eqCell, vI, vB, vS, apartW, Nat.reduceEqDiff, Nat.reduceAdd, Nat.reduceSub, Nat.reduceMul, Nat.reduceLT, Nat.reduceLeDiff, Int.reduceEq, Int.reduceNe, Int.reduceLT, Int.reduceLE, reduceCtorEq, ↓reduceIte, ne_eq, eq_self, and_self, str_eq_iff, Int.toNat_natCast, aceR, aceS, sh6, sh3, andI_fold, foldM, letsP, p1, p2]
      refine callL_of (k5) [] false [] [] ?_ ?_
      · refine CallOk.of ?_ ?_ rfl ?_ rfl rfl rfl rfl ?_ rfl ?_ rfl
        all_goals simp [ML, args1, arg1, args0, lents1, lent1, lent0, lents0, lentB, rowsM, body0, only, sg, injB, apartB, keysOf, cur, resS, ↓get_cons', ↓hget_cons', Value.oneCell', eq_self, and_self, ne_eq, vI, rK_nil, rK_len, rK_take, rM_len, rM_take, Int.toNat_natCast, aceR, aceS, sh6, sh3, andI_fold, foldM, letsP, p1, p2, S.flat2, S.flat1, S.flat, Body.flat, rA_flat, tM, lM, rK, List.map, r0]
      simp -implicitDefEqProofs only [RL0, RL1, RL2, RL3, RL4, RL5, RL6, RL7, RL8, chkW, ↓get_cons', ↓hget_cons', ↓hset_cons', St.gh, isNil, evalA, opTs, LOp.args, Nat.reduceBEq, renS, ren1, ren0, renB, only, sg, gmOf, wrN, buildCells, bsRows, Value.oneCell', setAt, eqCells, eqCell, vI, vB, vS, apartW, Nat.reduceEqDiff, Nat.reduceAdd, Nat.reduceSub, Nat.reduceMul, Nat.reduceLT, Nat.reduceLeDiff, Int.reduceEq, Int.reduceNe, Int.reduceLT, Int.reduceLE, reduceCtorEq, ↓reduceIte, ne_eq, eq_self, and_self, str_eq_iff, Int.toNat_natCast, aceR, aceS, sh6, sh3, andI_fold, foldM, letsP, p1, p2]
      refine RetOk.of [] [] ?_ ?_ rfl ?_ rfl rfl ?_
      all_goals simp [ML, args1, arg1, args0, lents1, lent1, lent0, lents0, lentB, rowsM, body0, only, sg, injB, apartB, keysOf, cur, resS, ↓get_cons', ↓hget_cons', Value.oneCell', eq_self, and_self, ne_eq, vI, rK_nil, Int.toNat_natCast, aceR, aceS, sh6, sh3, andI_fold, foldM]
end Go.Proofs.Ac
