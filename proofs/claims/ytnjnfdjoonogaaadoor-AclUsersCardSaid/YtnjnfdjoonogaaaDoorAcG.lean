import Derived.Test.YtnjnfdjoonogaaaDoorAcF
set_option linter.unusedVariables false
set_option linter.unusedSimpArgs false
-- DEFS foldL, Int.toNat_natCast, aceR, aceS, Int.cast_ofNat_Int, Int.reduceToNat, Int.toNat_zero
namespace Go.Proofs.Ac
open Go.RowKit Go.Lib Go.Eng Go.Proofs Go.IntWalk
set_option maxRecDepth 100000
set_option linter.unusedVariables false
set_option maxHeartbeats 4000000
def L0 : List Ac := [(3, 0, 5), (1, 7, 6)]
theorem foldL : ([[.v (.int .i64 3), .v (.int .i64 0), .v (.int .i64 5)], [.v (.int .i64 1), .v (.int .i64 7), .v (.int .i64 6)]] : List (List D)) = rM aceR L0 := rfl
theorem told_spec6 : Eng.Spec Tryd.prog 6 [] [] [] [] (.d (.v (.bool true))) := by
  have tL : List.take 2 L0 = L0 := rfl
  have lL : L0.length = 2 := rfl
  have tS : List.take 2 showL = showL := rfl
  have lS : showL.length = 2 := rfl
  have d1 : List.take 1 (rM aceR L0).tail = rM aceR [(1, 7, 6)] := rfl
  have g0 : L0.getD 0 default = (3, 0, 5) := rfl
  have g1 : L0.getD 1 default = (1, 7, 6) := rfl
  have g2 : showL.getD 0 default = (1, 7, 6) := rfl
  have n1 := norm_spec L0 (by decide)
  rw [show norm L0 = (showL, 0) by decide +kernel] at n1
  have n2 := norm_spec [(1, 7, 6)] (by decide)
  rw [show norm [(1, 7, 6)] = ([], 7) by decide +kernel] at n2
  have n3 := norm_spec [(3, 0, 5), (3, 0, 5)] (by decide)
  rw [show norm [(3, 0, 5), (3, 0, 5)] = ([], 6) by decide +kernel] at n3
  have n4 := norm_spec [(4, 0, 0)] (by decide)
  rw [show norm [(4, 0, 0)] = ([], 1) by decide +kernel] at n4
  refine told_spec mixed f6_told f6_results f6_text rfl (by simp) rfl ?_
  simp only [initS, List.length_cons, List.length_nil, List.range, List.range.loop, List.getD_cons_zero, List.getD_cons_succ, List.cons_append, List.nil_append, foldL, Int.toNat_natCast, aceR, aceS, Int.cast_ofNat_Int, Int.reduceToNat, Int.toNat_zero]
  simp -implicitDefEqProofs only [RL0, RL1, RL2, RL3, RL4, RL5, RL6, RL7, RL8, chkW, ↓get_cons', ↓hget_cons', ↓hset_cons', St.gh, isNil, evalA, opTs, LOp.args, Nat.reduceBEq, renS, ren1, ren0, renB, only, sg, gmOf, wrN, buildCells, bsRows, Value.oneCell', setAt, eqCells, eqCell, vI, vB, vS, apartW, Nat.reduceEqDiff, Nat.reduceAdd, Nat.reduceSub, Nat.reduceMul, Nat.reduceLT, Nat.reduceLeDiff, Int.reduceEq, Int.reduceNe, Int.reduceLT, Int.reduceLE, reduceCtorEq, ↓reduceIte, ne_eq, eq_self, and_self, str_eq_iff]
  refine callL_of (n1) [(1000, 15)] true [12] [] ?_ ?_
  · refine CallOk.of ?_ ?_ rfl ?_ rfl rfl rfl rfl ?_ rfl ?_ rfl
    all_goals simp [ML, args1, arg1, args0, lents1, lent1, lent0, lents0, lentB, rowsM, body0, only, sg, injB, apartB, keysOf, cur, resS, ↓get_cons', ↓hget_cons', Value.oneCell', eq_self, and_self, ne_eq, vI, rK_nil, rK_len, rK_take, rM_len, rM_take, foldL, Int.toNat_natCast, aceR, aceS, Int.cast_ofNat_Int, Int.reduceToNat, Int.toNat_zero, lS, lL, S.flat2, S.flat1, S.flat, Body.flat, rA_flat, tL, lL]
  simp -implicitDefEqProofs only [RL0, RL1, RL2, RL3, RL4, RL5, RL6, RL7, RL8, chkW, ↓get_cons', ↓hget_cons', ↓hset_cons', St.gh, isNil, evalA, opTs, LOp.args, Nat.reduceBEq, renS, ren1, ren0, renB, only, sg, gmOf, wrN, buildCells, bsRows, Value.oneCell', setAt, eqCells, eqCell, vI, vB, vS, apartW, Nat.reduceEqDiff, Nat.reduceAdd, Nat.reduceSub, Nat.reduceMul, Nat.reduceLT, Nat.reduceLeDiff, Int.reduceEq, Int.reduceNe, Int.reduceLT, Int.reduceLE, reduceCtorEq, ↓reduceIte, ne_eq, eq_self, and_self, str_eq_iff, foldL, Int.toNat_natCast, aceR, aceS, Int.cast_ofNat_Int, Int.reduceToNat, Int.toNat_zero, lS, lL]
  refine callL_of (n2) [(1000, 21)] true [12] [] ?_ ?_
  · refine CallOk.of ?_ ?_ rfl ?_ rfl rfl rfl rfl ?_ rfl ?_ rfl
    all_goals simp [ML, args1, arg1, args0, lents1, lent1, lent0, lents0, lentB, rowsM, body0, only, sg, injB, apartB, keysOf, cur, resS, ↓get_cons', ↓hget_cons', Value.oneCell', eq_self, and_self, ne_eq, vI, rK_nil, rK_len, rK_take, rM_len, rM_take, foldL, Int.toNat_natCast, aceR, aceS, Int.cast_ofNat_Int, Int.reduceToNat, Int.toNat_zero, lS, lL, g0, g1, g2, S.flat2, S.flat1, S.flat, Body.flat, rA_flat, d1, lL]
  simp -implicitDefEqProofs only [RL0, RL1, RL2, RL3, RL4, RL5, RL6, RL7, RL8, chkW, ↓get_cons', ↓hget_cons', ↓hset_cons', St.gh, isNil, evalA, opTs, LOp.args, Nat.reduceBEq, renS, ren1, ren0, renB, only, sg, gmOf, wrN, buildCells, bsRows, Value.oneCell', setAt, eqCells, eqCell, vI, vB, vS, apartW, Nat.reduceEqDiff, Nat.reduceAdd, Nat.reduceSub, Nat.reduceMul, Nat.reduceLT, Nat.reduceLeDiff, Int.reduceEq, Int.reduceNe, Int.reduceLT, Int.reduceLE, reduceCtorEq, ↓reduceIte, ne_eq, eq_self, and_self, str_eq_iff, foldL, Int.toNat_natCast, aceR, aceS, Int.cast_ofNat_Int, Int.reduceToNat, Int.toNat_zero, lS, lL, g0, g1, g2]
  refine callL_of (n3) [(1000, 32)] false [31] [31] ?_ ?_
  · refine CallOk.of ?_ ?_ rfl ?_ rfl rfl rfl rfl ?_ rfl ?_ rfl
    all_goals simp [ML, args1, arg1, args0, lents1, lent1, lent0, lents0, lentB, rowsM, body0, only, sg, injB, apartB, keysOf, cur, resS, ↓get_cons', ↓hget_cons', Value.oneCell', eq_self, and_self, ne_eq, vI, rK_nil, rK_len, rK_take, rM_len, rM_take, foldL, Int.toNat_natCast, aceR, aceS, Int.cast_ofNat_Int, Int.reduceToNat, Int.toNat_zero, lS, lL, g0, g1, g2, rM, List.map]
  simp -implicitDefEqProofs only [RL0, RL1, RL2, RL3, RL4, RL5, RL6, RL7, RL8, chkW, ↓get_cons', ↓hget_cons', ↓hset_cons', St.gh, isNil, evalA, opTs, LOp.args, Nat.reduceBEq, renS, ren1, ren0, renB, only, sg, gmOf, wrN, buildCells, bsRows, Value.oneCell', setAt, eqCells, eqCell, vI, vB, vS, apartW, Nat.reduceEqDiff, Nat.reduceAdd, Nat.reduceSub, Nat.reduceMul, Nat.reduceLT, Nat.reduceLeDiff, Int.reduceEq, Int.reduceNe, Int.reduceLT, Int.reduceLE, reduceCtorEq, ↓reduceIte, ne_eq, eq_self, and_self, str_eq_iff, foldL, Int.toNat_natCast, aceR, aceS, Int.cast_ofNat_Int, Int.reduceToNat, Int.toNat_zero, lS, lL, g0, g1, g2]
  refine callL_of (n4) [(1000, 38)] false [37] [37] ?_ ?_
  · refine CallOk.of ?_ ?_ rfl ?_ rfl rfl rfl rfl ?_ rfl ?_ rfl
    all_goals simp [ML, args1, arg1, args0, lents1, lent1, lent0, lents0, lentB, rowsM, body0, only, sg, injB, apartB, keysOf, cur, resS, ↓get_cons', ↓hget_cons', Value.oneCell', eq_self, and_self, ne_eq, vI, rK_nil, rK_len, rK_take, rM_len, rM_take, foldL, Int.toNat_natCast, aceR, aceS, Int.cast_ofNat_Int, Int.reduceToNat, Int.toNat_zero, lS, lL, g0, g1, g2, rM, List.map]
  simp -implicitDefEqProofs only [RL0, RL1, RL2, RL3, RL4, RL5, RL6, RL7, RL8, chkW, ↓get_cons', ↓hget_cons', ↓hset_cons', St.gh, isNil, evalA, opTs, LOp.args, Nat.reduceBEq, renS, ren1, ren0, renB, only, sg, gmOf, wrN, buildCells, bsRows, Value.oneCell', setAt, eqCells, eqCell, vI, vB, vS, apartW, Nat.reduceEqDiff, Nat.reduceAdd, Nat.reduceSub, Nat.reduceMul, Nat.reduceLT, Nat.reduceLeDiff, Int.reduceEq, Int.reduceNe, Int.reduceLT, Int.reduceLE, reduceCtorEq, ↓reduceIte, ne_eq, eq_self, and_self, str_eq_iff, foldL, Int.toNat_natCast, aceR, aceS, Int.cast_ofNat_Int, Int.reduceToNat, Int.toNat_zero, lS, lL, g0, g1, g2]
  have m1 := mayacl_spec showL (by decide)
  rw [show decide (mayA showL) = true by decide +kernel] at m1
  have m2 := mayacl_spec L0 (by decide)
  rw [show decide (mayA L0) = false by decide +kernel] at m2
  have m3 := mayacl_spec [] (by decide)
  rw [show decide (mayA []) = true by decide +kernel] at m3
  have r0 : rM aceR [] = [] := rfl
  have k1 := lets_spec showL 416 1 2 7 [] 4 (by decide) (by decide)
  rw [show letsF showL 416 1 2 7 [] 4 = true by decide +kernel] at k1
  have k2 := lets_spec showL 416 1 2 7 [] 2 (by decide) (by decide)
  rw [show letsF showL 416 1 2 7 [] 2 = false by decide +kernel] at k2
  have k3 := lets_spec showL 416 1 2 1 [] 6 (by decide) (by decide)
  rw [show letsF showL 416 1 2 1 [] 6 = true by decide +kernel] at k3
  have k4 := lets_spec showL 0 1 2 0 [] 7 (by decide) (by decide)
  rw [show letsF showL 0 1 2 0 [] 7 = true by decide +kernel] at k4
  have k5 := lets_spec showL 416 1 2 9 [] 4 (by decide) (by decide)
  rw [show letsF showL 416 1 2 9 [] 4 = false by decide +kernel] at k5
  have k6 := lets_spec showL 416 1 2 9 [2] 4 (by decide) (by decide)
  rw [show letsF showL 416 1 2 9 [2] 4 = true by decide +kernel] at k6
  have e1 := same_spec showL showL (by decide) (by decide)
  rw [show decide (showL = showL) = true by decide +kernel] at e1
  have e2 := same_spec showL L0 (by decide) (by decide)
  rw [show decide (showL = L0) = false by decide +kernel] at e2
  refine callLT_of (m1) [] true [15] [] ?_ ?_
  · refine CallOk.of ?_ ?_ rfl ?_ rfl rfl rfl rfl ?_ rfl ?_ rfl
    all_goals simp [ML, args1, arg1, args0, lents1, lent1, lent0, lents0, lentB, rowsM, body0, only, sg, injB, apartB, keysOf, cur, resS, ↓get_cons', ↓hget_cons', Value.oneCell', eq_self, and_self, ne_eq, vI, rK_nil, rK_len, rK_take, rM_len, rM_take, foldL, Int.toNat_natCast, aceR, aceS, Int.cast_ofNat_Int, Int.reduceToNat, Int.toNat_zero, lS, lL, S.flat2, S.flat1, S.flat, Body.flat, rA_flat, tS, lS, tL, lL]
  simp -implicitDefEqProofs only [RL0, RL1, RL2, RL3, RL4, RL5, RL6, RL7, RL8, chkW, ↓get_cons', ↓hget_cons', ↓hset_cons', St.gh, isNil, evalA, opTs, LOp.args, Nat.reduceBEq, renS, ren1, ren0, renB, only, sg, gmOf, wrN, buildCells, bsRows, Value.oneCell', setAt, eqCells, eqCell, vI, vB, vS, apartW, Nat.reduceEqDiff, Nat.reduceAdd, Nat.reduceSub, Nat.reduceMul, Nat.reduceLT, Nat.reduceLeDiff, Int.reduceEq, Int.reduceNe, Int.reduceLT, Int.reduceLE, reduceCtorEq, ↓reduceIte, ne_eq, eq_self, and_self, str_eq_iff, foldL, Int.toNat_natCast, aceR, aceS, Int.cast_ofNat_Int, Int.reduceToNat, Int.toNat_zero, lS, lL, callT, cellT]
  refine callLT_of (m2) [] true [12] [] ?_ ?_
  · refine CallOk.of ?_ ?_ rfl ?_ rfl rfl rfl rfl ?_ rfl ?_ rfl
    all_goals simp [ML, args1, arg1, args0, lents1, lent1, lent0, lents0, lentB, rowsM, body0, only, sg, injB, apartB, keysOf, cur, resS, ↓get_cons', ↓hget_cons', Value.oneCell', eq_self, and_self, ne_eq, vI, rK_nil, rK_len, rK_take, rM_len, rM_take, foldL, Int.toNat_natCast, aceR, aceS, Int.cast_ofNat_Int, Int.reduceToNat, Int.toNat_zero, lS, lL, S.flat2, S.flat1, S.flat, Body.flat, rA_flat, tS, lS, tL, lL]
  simp -implicitDefEqProofs only [RL0, RL1, RL2, RL3, RL4, RL5, RL6, RL7, RL8, chkW, ↓get_cons', ↓hget_cons', ↓hset_cons', St.gh, isNil, evalA, opTs, LOp.args, Nat.reduceBEq, renS, ren1, ren0, renB, only, sg, gmOf, wrN, buildCells, bsRows, Value.oneCell', setAt, eqCells, eqCell, vI, vB, vS, apartW, Nat.reduceEqDiff, Nat.reduceAdd, Nat.reduceSub, Nat.reduceMul, Nat.reduceLT, Nat.reduceLeDiff, Int.reduceEq, Int.reduceNe, Int.reduceLT, Int.reduceLE, reduceCtorEq, ↓reduceIte, ne_eq, eq_self, and_self, str_eq_iff, foldL, Int.toNat_natCast, aceR, aceS, Int.cast_ofNat_Int, Int.reduceToNat, Int.toNat_zero, lS, lL, callT, cellT]
  refine callLT_of (m3) [] false [] [] ?_ ?_
  · refine CallOk.of ?_ ?_ rfl ?_ rfl rfl rfl rfl ?_ rfl ?_ rfl
    all_goals simp [ML, args1, arg1, args0, lents1, lent1, lent0, lents0, lentB, rowsM, body0, only, sg, injB, apartB, keysOf, cur, resS, ↓get_cons', ↓hget_cons', Value.oneCell', eq_self, and_self, ne_eq, vI, rK_nil, rK_len, rK_take, rM_len, rM_take, foldL, Int.toNat_natCast, aceR, aceS, Int.cast_ofNat_Int, Int.reduceToNat, Int.toNat_zero, lS, lL, r0]
  simp -implicitDefEqProofs only [RL0, RL1, RL2, RL3, RL4, RL5, RL6, RL7, RL8, chkW, ↓get_cons', ↓hget_cons', ↓hset_cons', St.gh, isNil, evalA, opTs, LOp.args, Nat.reduceBEq, renS, ren1, ren0, renB, only, sg, gmOf, wrN, buildCells, bsRows, Value.oneCell', setAt, eqCells, eqCell, vI, vB, vS, apartW, Nat.reduceEqDiff, Nat.reduceAdd, Nat.reduceSub, Nat.reduceMul, Nat.reduceLT, Nat.reduceLeDiff, Int.reduceEq, Int.reduceNe, Int.reduceLT, Int.reduceLE, reduceCtorEq, ↓reduceIte, ne_eq, eq_self, and_self, str_eq_iff, foldL, Int.toNat_natCast, aceR, aceS, Int.cast_ofNat_Int, Int.reduceToNat, Int.toNat_zero, lS, lL, callT, cellT]
  refine callLT_of (k1) [] true [15] [] ?_ ?_
  · refine CallOk.of ?_ ?_ rfl ?_ rfl rfl rfl rfl ?_ rfl ?_ rfl
    all_goals simp [ML, args1, arg1, args0, lents1, lent1, lent0, lents0, lentB, rowsM, body0, only, sg, injB, apartB, keysOf, cur, resS, ↓get_cons', ↓hget_cons', Value.oneCell', eq_self, and_self, ne_eq, vI, rK_nil, rK_len, rK_take, rM_len, rM_take, foldL, Int.toNat_natCast, aceR, aceS, Int.cast_ofNat_Int, Int.reduceToNat, Int.toNat_zero, lS, lL, S.flat2, S.flat1, S.flat, Body.flat, rA_flat, tS, lS, tL, lL]
  simp -implicitDefEqProofs only [RL0, RL1, RL2, RL3, RL4, RL5, RL6, RL7, RL8, chkW, ↓get_cons', ↓hget_cons', ↓hset_cons', St.gh, isNil, evalA, opTs, LOp.args, Nat.reduceBEq, renS, ren1, ren0, renB, only, sg, gmOf, wrN, buildCells, bsRows, Value.oneCell', setAt, eqCells, eqCell, vI, vB, vS, apartW, Nat.reduceEqDiff, Nat.reduceAdd, Nat.reduceSub, Nat.reduceMul, Nat.reduceLT, Nat.reduceLeDiff, Int.reduceEq, Int.reduceNe, Int.reduceLT, Int.reduceLE, reduceCtorEq, ↓reduceIte, ne_eq, eq_self, and_self, str_eq_iff, foldL, Int.toNat_natCast, aceR, aceS, Int.cast_ofNat_Int, Int.reduceToNat, Int.toNat_zero, lS, lL, callT, cellT]
  refine callLT_of (k2) [] true [15] [] ?_ ?_
  · refine CallOk.of ?_ ?_ rfl ?_ rfl rfl rfl rfl ?_ rfl ?_ rfl
    all_goals simp [ML, args1, arg1, args0, lents1, lent1, lent0, lents0, lentB, rowsM, body0, only, sg, injB, apartB, keysOf, cur, resS, ↓get_cons', ↓hget_cons', Value.oneCell', eq_self, and_self, ne_eq, vI, rK_nil, rK_len, rK_take, rM_len, rM_take, foldL, Int.toNat_natCast, aceR, aceS, Int.cast_ofNat_Int, Int.reduceToNat, Int.toNat_zero, lS, lL, S.flat2, S.flat1, S.flat, Body.flat, rA_flat, tS, lS, tL, lL]
  simp -implicitDefEqProofs only [RL0, RL1, RL2, RL3, RL4, RL5, RL6, RL7, RL8, chkW, ↓get_cons', ↓hget_cons', ↓hset_cons', St.gh, isNil, evalA, opTs, LOp.args, Nat.reduceBEq, renS, ren1, ren0, renB, only, sg, gmOf, wrN, buildCells, bsRows, Value.oneCell', setAt, eqCells, eqCell, vI, vB, vS, apartW, Nat.reduceEqDiff, Nat.reduceAdd, Nat.reduceSub, Nat.reduceMul, Nat.reduceLT, Nat.reduceLeDiff, Int.reduceEq, Int.reduceNe, Int.reduceLT, Int.reduceLE, reduceCtorEq, ↓reduceIte, ne_eq, eq_self, and_self, str_eq_iff, foldL, Int.toNat_natCast, aceR, aceS, Int.cast_ofNat_Int, Int.reduceToNat, Int.toNat_zero, lS, lL, callT, cellT]
  refine callLT_of (k3) [] true [15] [] ?_ ?_
  · refine CallOk.of ?_ ?_ rfl ?_ rfl rfl rfl rfl ?_ rfl ?_ rfl
    all_goals simp [ML, args1, arg1, args0, lents1, lent1, lent0, lents0, lentB, rowsM, body0, only, sg, injB, apartB, keysOf, cur, resS, ↓get_cons', ↓hget_cons', Value.oneCell', eq_self, and_self, ne_eq, vI, rK_nil, rK_len, rK_take, rM_len, rM_take, foldL, Int.toNat_natCast, aceR, aceS, Int.cast_ofNat_Int, Int.reduceToNat, Int.toNat_zero, lS, lL, S.flat2, S.flat1, S.flat, Body.flat, rA_flat, tS, lS, tL, lL]
  simp -implicitDefEqProofs only [RL0, RL1, RL2, RL3, RL4, RL5, RL6, RL7, RL8, chkW, ↓get_cons', ↓hget_cons', ↓hset_cons', St.gh, isNil, evalA, opTs, LOp.args, Nat.reduceBEq, renS, ren1, ren0, renB, only, sg, gmOf, wrN, buildCells, bsRows, Value.oneCell', setAt, eqCells, eqCell, vI, vB, vS, apartW, Nat.reduceEqDiff, Nat.reduceAdd, Nat.reduceSub, Nat.reduceMul, Nat.reduceLT, Nat.reduceLeDiff, Int.reduceEq, Int.reduceNe, Int.reduceLT, Int.reduceLE, reduceCtorEq, ↓reduceIte, ne_eq, eq_self, and_self, str_eq_iff, foldL, Int.toNat_natCast, aceR, aceS, Int.cast_ofNat_Int, Int.reduceToNat, Int.toNat_zero, lS, lL, callT, cellT]
  refine callLT_of (k4) [] true [15] [] ?_ ?_
  · refine CallOk.of ?_ ?_ rfl ?_ rfl rfl rfl rfl ?_ rfl ?_ rfl
    all_goals simp [ML, args1, arg1, args0, lents1, lent1, lent0, lents0, lentB, rowsM, body0, only, sg, injB, apartB, keysOf, cur, resS, ↓get_cons', ↓hget_cons', Value.oneCell', eq_self, and_self, ne_eq, vI, rK_nil, rK_len, rK_take, rM_len, rM_take, foldL, Int.toNat_natCast, aceR, aceS, Int.cast_ofNat_Int, Int.reduceToNat, Int.toNat_zero, lS, lL, S.flat2, S.flat1, S.flat, Body.flat, rA_flat, tS, lS, tL, lL]
  simp -implicitDefEqProofs only [RL0, RL1, RL2, RL3, RL4, RL5, RL6, RL7, RL8, chkW, ↓get_cons', ↓hget_cons', ↓hset_cons', St.gh, isNil, evalA, opTs, LOp.args, Nat.reduceBEq, renS, ren1, ren0, renB, only, sg, gmOf, wrN, buildCells, bsRows, Value.oneCell', setAt, eqCells, eqCell, vI, vB, vS, apartW, Nat.reduceEqDiff, Nat.reduceAdd, Nat.reduceSub, Nat.reduceMul, Nat.reduceLT, Nat.reduceLeDiff, Int.reduceEq, Int.reduceNe, Int.reduceLT, Int.reduceLE, reduceCtorEq, ↓reduceIte, ne_eq, eq_self, and_self, str_eq_iff, foldL, Int.toNat_natCast, aceR, aceS, Int.cast_ofNat_Int, Int.reduceToNat, Int.toNat_zero, lS, lL, callT, cellT]
  refine callLT_of (k5) [] true [15] [] ?_ ?_
  · refine CallOk.of ?_ ?_ rfl ?_ rfl rfl rfl rfl ?_ rfl ?_ rfl
    all_goals simp [ML, args1, arg1, args0, lents1, lent1, lent0, lents0, lentB, rowsM, body0, only, sg, injB, apartB, keysOf, cur, resS, ↓get_cons', ↓hget_cons', Value.oneCell', eq_self, and_self, ne_eq, vI, rK_nil, rK_len, rK_take, rM_len, rM_take, foldL, Int.toNat_natCast, aceR, aceS, Int.cast_ofNat_Int, Int.reduceToNat, Int.toNat_zero, lS, lL, S.flat2, S.flat1, S.flat, Body.flat, rA_flat, tS, lS, tL, lL]
  simp -implicitDefEqProofs only [RL0, RL1, RL2, RL3, RL4, RL5, RL6, RL7, RL8, chkW, ↓get_cons', ↓hget_cons', ↓hset_cons', St.gh, isNil, evalA, opTs, LOp.args, Nat.reduceBEq, renS, ren1, ren0, renB, only, sg, gmOf, wrN, buildCells, bsRows, Value.oneCell', setAt, eqCells, eqCell, vI, vB, vS, apartW, Nat.reduceEqDiff, Nat.reduceAdd, Nat.reduceSub, Nat.reduceMul, Nat.reduceLT, Nat.reduceLeDiff, Int.reduceEq, Int.reduceNe, Int.reduceLT, Int.reduceLE, reduceCtorEq, ↓reduceIte, ne_eq, eq_self, and_self, str_eq_iff, foldL, Int.toNat_natCast, aceR, aceS, Int.cast_ofNat_Int, Int.reduceToNat, Int.toNat_zero, lS, lL, callT, cellT]
  refine callLT_of (k6) [] true [15, 105] [105] ?_ ?_
  · refine CallOk.of ?_ ?_ rfl ?_ rfl rfl rfl rfl ?_ rfl ?_ rfl
    all_goals simp [ML, args1, arg1, args0, lents1, lent1, lent0, lents0, lentB, rowsM, body0, only, sg, injB, apartB, keysOf, cur, resS, ↓get_cons', ↓hget_cons', Value.oneCell', eq_self, and_self, ne_eq, vI, rK_nil, rK_len, rK_take, rM_len, rM_take, foldL, Int.toNat_natCast, aceR, aceS, Int.cast_ofNat_Int, Int.reduceToNat, Int.toNat_zero, lS, lL, S.flat2, S.flat1, S.flat, Body.flat, rA_flat, tS, lS, tL, lL, rK, List.map]
  simp -implicitDefEqProofs only [RL0, RL1, RL2, RL3, RL4, RL5, RL6, RL7, RL8, chkW, ↓get_cons', ↓hget_cons', ↓hset_cons', St.gh, isNil, evalA, opTs, LOp.args, Nat.reduceBEq, renS, ren1, ren0, renB, only, sg, gmOf, wrN, buildCells, bsRows, Value.oneCell', setAt, eqCells, eqCell, vI, vB, vS, apartW, Nat.reduceEqDiff, Nat.reduceAdd, Nat.reduceSub, Nat.reduceMul, Nat.reduceLT, Nat.reduceLeDiff, Int.reduceEq, Int.reduceNe, Int.reduceLT, Int.reduceLE, reduceCtorEq, ↓reduceIte, ne_eq, eq_self, and_self, str_eq_iff, foldL, Int.toNat_natCast, aceR, aceS, Int.cast_ofNat_Int, Int.reduceToNat, Int.toNat_zero, lS, lL, callT, cellT]
  refine callLT_of (show_spec) [] true [15] [] ?_ ?_
  · refine CallOk.of ?_ ?_ rfl ?_ rfl rfl rfl rfl ?_ rfl ?_ rfl
    all_goals simp [ML, args1, arg1, args0, lents1, lent1, lent0, lents0, lentB, rowsM, body0, only, sg, injB, apartB, keysOf, cur, resS, ↓get_cons', ↓hget_cons', Value.oneCell', eq_self, and_self, ne_eq, vI, rK_nil, rK_len, rK_take, rM_len, rM_take, foldL, Int.toNat_natCast, aceR, aceS, Int.cast_ofNat_Int, Int.reduceToNat, Int.toNat_zero, lS, lL, S.flat2, S.flat1, S.flat, Body.flat, rA_flat, tS, lS, tL, lL]
  simp -implicitDefEqProofs only [RL0, RL1, RL2, RL3, RL4, RL5, RL6, RL7, RL8, chkW, ↓get_cons', ↓hget_cons', ↓hset_cons', St.gh, isNil, evalA, opTs, LOp.args, Nat.reduceBEq, renS, ren1, ren0, renB, only, sg, gmOf, wrN, buildCells, bsRows, Value.oneCell', setAt, eqCells, eqCell, vI, vB, vS, apartW, Nat.reduceEqDiff, Nat.reduceAdd, Nat.reduceSub, Nat.reduceMul, Nat.reduceLT, Nat.reduceLeDiff, Int.reduceEq, Int.reduceNe, Int.reduceLT, Int.reduceLE, reduceCtorEq, ↓reduceIte, ne_eq, eq_self, and_self, str_eq_iff, foldL, Int.toNat_natCast, aceR, aceS, Int.cast_ofNat_Int, Int.reduceToNat, Int.toNat_zero, lS, lL, callT, cellT]
  refine callLT_of (e1) [] true [15] [] ?_ ?_
  · refine CallOk.of ?_ ?_ rfl ?_ rfl rfl rfl rfl ?_ rfl ?_ rfl
    all_goals simp [ML, args1, arg1, args0, lents1, lent1, lent0, lents0, lentB, rowsM, body0, only, sg, injB, apartB, keysOf, cur, resS, ↓get_cons', ↓hget_cons', Value.oneCell', eq_self, and_self, ne_eq, vI, rK_nil, rK_len, rK_take, rM_len, rM_take, foldL, Int.toNat_natCast, aceR, aceS, Int.cast_ofNat_Int, Int.reduceToNat, Int.toNat_zero, lS, lL, S.flat2, S.flat1, S.flat, Body.flat, rA_flat, tS, lS, tL, lL]
  simp -implicitDefEqProofs only [RL0, RL1, RL2, RL3, RL4, RL5, RL6, RL7, RL8, chkW, ↓get_cons', ↓hget_cons', ↓hset_cons', St.gh, isNil, evalA, opTs, LOp.args, Nat.reduceBEq, renS, ren1, ren0, renB, only, sg, gmOf, wrN, buildCells, bsRows, Value.oneCell', setAt, eqCells, eqCell, vI, vB, vS, apartW, Nat.reduceEqDiff, Nat.reduceAdd, Nat.reduceSub, Nat.reduceMul, Nat.reduceLT, Nat.reduceLeDiff, Int.reduceEq, Int.reduceNe, Int.reduceLT, Int.reduceLE, reduceCtorEq, ↓reduceIte, ne_eq, eq_self, and_self, str_eq_iff, foldL, Int.toNat_natCast, aceR, aceS, Int.cast_ofNat_Int, Int.reduceToNat, Int.toNat_zero, lS, lL, callT, cellT]
  refine callLT_of (e2) [] true [15, 12] [] ?_ ?_
  · refine CallOk.of ?_ ?_ rfl ?_ rfl rfl rfl rfl ?_ rfl ?_ rfl
    all_goals simp [ML, args1, arg1, args0, lents1, lent1, lent0, lents0, lentB, rowsM, body0, only, sg, injB, apartB, keysOf, cur, resS, ↓get_cons', ↓hget_cons', Value.oneCell', eq_self, and_self, ne_eq, vI, rK_nil, rK_len, rK_take, rM_len, rM_take, foldL, Int.toNat_natCast, aceR, aceS, Int.cast_ofNat_Int, Int.reduceToNat, Int.toNat_zero, lS, lL, S.flat2, S.flat1, S.flat, Body.flat, rA_flat, tS, lS, tL, lL]
  simp -implicitDefEqProofs only [RL0, RL1, RL2, RL3, RL4, RL5, RL6, RL7, RL8, chkW, ↓get_cons', ↓hget_cons', ↓hset_cons', St.gh, isNil, evalA, opTs, LOp.args, Nat.reduceBEq, renS, ren1, ren0, renB, only, sg, gmOf, wrN, buildCells, bsRows, Value.oneCell', setAt, eqCells, eqCell, vI, vB, vS, apartW, Nat.reduceEqDiff, Nat.reduceAdd, Nat.reduceSub, Nat.reduceMul, Nat.reduceLT, Nat.reduceLeDiff, Int.reduceEq, Int.reduceNe, Int.reduceLT, Int.reduceLE, reduceCtorEq, ↓reduceIte, ne_eq, eq_self, and_self, str_eq_iff, foldL, Int.toNat_natCast, aceR, aceS, Int.cast_ofNat_Int, Int.reduceToNat, Int.toNat_zero, lS, lL, callT, cellT]
  refine RetOk.of [] [] ?_ ?_ rfl ?_ rfl rfl ?_
  all_goals simp [ML, args1, arg1, args0, lents1, lent1, lent0, lents0, lentB, rowsM, body0, only, sg, injB, apartB, keysOf, cur, resS, ↓get_cons', ↓hget_cons', Value.oneCell', eq_self, and_self, ne_eq, vI, rK_nil, foldL, Int.toNat_natCast, aceR, aceS, Int.cast_ofNat_Int, Int.reduceToNat, Int.toNat_zero]
end Go.Proofs.Ac
