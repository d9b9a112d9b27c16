import Derived.Test.YthbonnlhoaeflaaExU
set_option linter.unusedVariables false
set_option linter.unusedSimpArgs false
-- DEFS Int.toNat_natCast, cV, cR, c_set, List.length_set
namespace Go.Proofs.Ex
open Go.RowKit Go.Lib Go.Eng Go.Proofs Go.IntWalk
set_option maxRecDepth 100000
set_option linter.unusedVariables false
set_option maxHeartbeats 4000000
theorem sm_tail (n p x y c r : Nat) (R0 R1 R2 R3 : List Z) (hc : c = (x + y) / 2) (hx : 2 ≤ x) (hy : 2 ≤ y) (hr : r ≤ c) (hr2 : r ≤ x) (hr3 : c - r ≤ y) (hn : p + x + y ≤ n) (hl : n ≤ 2 ^ 40)
    (s1 : r < x ∧ r < c → Eng.Spec Try.prog 67 [1000] [(1000, ⟨0, .arr 1 (rM cR R0)⟩)] [.view 1000 0 0 n, .d (.v (.int .i64 (p + r : Nat))), .d (.v (.int .i64 (p + x : Nat))), .d (.v (.int .i64 (p + (c + x - r) : Nat))), .d (.v (.func (.func 32) #[] #[]))] [(1000, ⟨0, .arr 1 (rM cR R1)⟩)] (.tup []))
    (s2 : 0 < r ∧ r < c → Eng.Spec Try.prog 61 [1000] [(1000, ⟨0, .arr 1 (rM cR R1)⟩)] [.view 1000 0 0 n, .d (.v (.int .i64 (p : Nat))), .d (.v (.int .i64 (p + r : Nat))), .d (.v (.int .i64 (p + c : Nat))), .d (.v (.func (.func 32) #[] #[]))] [(1000, ⟨0, .arr 1 (rM cR R2)⟩)] (.tup []))
    (s3 : r < x ∧ c - r < y → Eng.Spec Try.prog 61 [1000] [(1000, ⟨0, .arr 1 (rM cR R2)⟩)] [.view 1000 0 0 n, .d (.v (.int .i64 (p + c : Nat))), .d (.v (.int .i64 (p + (c + x - r) : Nat))), .d (.v (.int .i64 (p + x + y : Nat))), .d (.v (.func (.func 32) #[] #[]))] [(1000, ⟨0, .arr 1 (rM cR R3)⟩)] (.tup []))
    (d1 : ¬ (r < x ∧ r < c) → R0 = R1) (d2 : ¬ (0 < r ∧ r < c) → R1 = R2) (d3 : ¬ (r < x ∧ c - r < y) → R2 = R3) :
    vc Try.prog [1000] (LC.seq l61r43 (LC.seq (LC.seq l61r44 (LC.cond (LA.t 185) l61r45 LC.skip)) (LC.seq (LC.seq l61r46 (LC.cond (LA.t 199) l61r47 LC.skip)) (LC.seq l61r48 (LC.cond (LA.t 213) l61r49 LC.skip))))) ⟨[(4, .d (.v (.func (.func 32) #[] #[]))), (3, .d (.v (.int .i64 (p + x + y : Nat)))), (18, .d (.v (.int .i64 (p + c : Nat)))), (0, .view 1000 0 0 n), (20, .d (.v (.int .i64 (p + r : Nat)))), (1, .d (.v (.int .i64 p))), (2, .d (.v (.int .i64 (p + x : Nat)))), (19, .d (.v (.int .i64 (2 * p + c + x : Nat))))], [(1000, ⟨0, .arr 1 (rM cR R0)⟩)]⟩
      (fun e st => (e = Exit.normal ∨ e = Exit.ret) ∧ RetOk [] st [1000] [(1000, ⟨0, .arr 1 (rM cR R3)⟩)] (.tup [])) := by
  have e2 : IntKind.i64.wrap (((2 * p + c + x : Nat) : Int) - ((p + r : Nat) : Int)) = ((p + (c + x - r) : Nat) : Int) := by rw [i64_in _ (by omega)]; omega
  by_cases hA : r < x
  · by_cases hB : r < c
    · by_cases hC : 0 < r
      · by_cases hD : c - r < y
        · have t1 : (((p + r : Nat) : Int) < ((p + x : Nat) : Int)) = True := eq_true (by omega)
          have t2 : (((p + x : Nat) : Int) < ((p + (c + x - r) : Nat) : Int)) = True := eq_true (by omega)
          have t3 : (((p : Nat) : Int) < ((p + r : Nat) : Int)) = True := eq_true (by omega)
          have t4 : (((p + r : Nat) : Int) < ((p + c : Nat) : Int)) = True := eq_true (by omega)
          have t5 : (((p + c : Nat) : Int) < ((p + (c + x - r) : Nat) : Int)) = True := eq_true (by omega)
          have t6 : (((p + (c + x - r) : Nat) : Int) < ((p + x + y : Nat) : Int)) = True := eq_true (by omega)
          simp -implicitDefEqProofs only [RL0, RL1, RL2, RL3, RL4, RL5, RL6, RL7, RL8, RL9, chkW, ↓get_cons', ↓hget_cons', ↓hset_cons', St.gh, isNil, evalA, opTs, LOp.args, Nat.reduceBEq, renS, ren1, ren0, renB, only, sg, gmOf, wrN, buildCells, bsRows, Value.oneCell', setAt, eqCells, eqCell, vI, vB, vS, apartW, Nat.reduceEqDiff, Nat.reduceAdd, Nat.reduceSub, Nat.reduceMul, Nat.reduceLT, Nat.reduceLeDiff, Int.reduceEq, Int.reduceNe, Int.reduceLT, Int.reduceLE, reduceCtorEq, ↓reduceIte, ne_eq, eq_self, and_self, str_eq_iff, Int.toNat_natCast, cV, cR, c_set, List.length_set, e2, t1, t2, t3, t4, t5, t6]
          refine callL_of (s1 ⟨by omega, by omega⟩) [(1000, 1000)] false [] [] ?_ ?_
          · refine CallOk.of ?_ ?_ rfl ?_ rfl rfl rfl rfl ?_ rfl ?_ rfl
            all_goals simp [ML, args1, arg1, args0, lents1, lent1, lent0, lents0, lentB, rowsM, body0, only, sg, injB, apartB, keysOf, cur, resS, ↓get_cons', ↓hget_cons', Value.oneCell', eq_self, and_self, ne_eq, vI, rK_nil, rK_len, rK_take, rM_len, rM_take, Int.toNat_natCast, cV, cR, c_set, List.length_set, e2, t1, t2, t3, t4, t5, t6]
          simp -implicitDefEqProofs only [RL0, RL1, RL2, RL3, RL4, RL5, RL6, RL7, RL8, RL9, chkW, ↓get_cons', ↓hget_cons', ↓hset_cons', St.gh, isNil, evalA, opTs, LOp.args, Nat.reduceBEq, renS, ren1, ren0, renB, only, sg, gmOf, wrN, buildCells, bsRows, Value.oneCell', setAt, eqCells, eqCell, vI, vB, vS, apartW, Nat.reduceEqDiff, Nat.reduceAdd, Nat.reduceSub, Nat.reduceMul, Nat.reduceLT, Nat.reduceLeDiff, Int.reduceEq, Int.reduceNe, Int.reduceLT, Int.reduceLE, reduceCtorEq, ↓reduceIte, ne_eq, eq_self, and_self, str_eq_iff, Int.toNat_natCast, cV, cR, c_set, List.length_set, e2, t1, t2, t3, t4, t5, t6]
          refine callL_of (s2 ⟨by omega, by omega⟩) [(1000, 1000)] false [] [] ?_ ?_
          · refine CallOk.of ?_ ?_ rfl ?_ rfl rfl rfl rfl ?_ rfl ?_ rfl
            all_goals simp [ML, args1, arg1, args0, lents1, lent1, lent0, lents0, lentB, rowsM, body0, only, sg, injB, apartB, keysOf, cur, resS, ↓get_cons', ↓hget_cons', Value.oneCell', eq_self, and_self, ne_eq, vI, rK_nil, rK_len, rK_take, rM_len, rM_take, Int.toNat_natCast, cV, cR, c_set, List.length_set, e2, t1, t2, t3, t4, t5, t6]
          simp -implicitDefEqProofs only [RL0, RL1, RL2, RL3, RL4, RL5, RL6, RL7, RL8, RL9, chkW, ↓get_cons', ↓hget_cons', ↓hset_cons', St.gh, isNil, evalA, opTs, LOp.args, Nat.reduceBEq, renS, ren1, ren0, renB, only, sg, gmOf, wrN, buildCells, bsRows, Value.oneCell', setAt, eqCells, eqCell, vI, vB, vS, apartW, Nat.reduceEqDiff, Nat.reduceAdd, Nat.reduceSub, Nat.reduceMul, Nat.reduceLT, Nat.reduceLeDiff, Int.reduceEq, Int.reduceNe, Int.reduceLT, Int.reduceLE, reduceCtorEq, ↓reduceIte, ne_eq, eq_self, and_self, str_eq_iff, Int.toNat_natCast, cV, cR, c_set, List.length_set, e2, t1, t2, t3, t4, t5, t6]
          refine callL_of (s3 ⟨by omega, by omega⟩) [(1000, 1000)] false [] [] ?_ ?_
          · refine CallOk.of ?_ ?_ rfl ?_ rfl rfl rfl rfl ?_ rfl ?_ rfl
            all_goals simp [ML, args1, arg1, args0, lents1, lent1, lent0, lents0, lentB, rowsM, body0, only, sg, injB, apartB, keysOf, cur, resS, ↓get_cons', ↓hget_cons', Value.oneCell', eq_self, and_self, ne_eq, vI, rK_nil, rK_len, rK_take, rM_len, rM_take, Int.toNat_natCast, cV, cR, c_set, List.length_set, e2, t1, t2, t3, t4, t5, t6]
          simp -implicitDefEqProofs only [RL0, RL1, RL2, RL3, RL4, RL5, RL6, RL7, RL8, RL9, chkW, ↓get_cons', ↓hget_cons', ↓hset_cons', St.gh, isNil, evalA, opTs, LOp.args, Nat.reduceBEq, renS, ren1, ren0, renB, only, sg, gmOf, wrN, buildCells, bsRows, Value.oneCell', setAt, eqCells, eqCell, vI, vB, vS, apartW, Nat.reduceEqDiff, Nat.reduceAdd, Nat.reduceSub, Nat.reduceMul, Nat.reduceLT, Nat.reduceLeDiff, Int.reduceEq, Int.reduceNe, Int.reduceLT, Int.reduceLE, reduceCtorEq, ↓reduceIte, ne_eq, eq_self, and_self, str_eq_iff, Int.toNat_natCast, cV, cR, c_set, List.length_set, e2, t1, t2, t3, t4, t5, t6]
          refine RetOk.of [(1000, 1000)] [] ?_ ?_ rfl ?_ rfl rfl ?_
          all_goals simp [ML, args1, arg1, args0, lents1, lent1, lent0, lents0, lentB, rowsM, body0, only, sg, injB, apartB, keysOf, cur, resS, ↓get_cons', ↓hget_cons', Value.oneCell', eq_self, and_self, ne_eq, vI, rK_nil, Int.toNat_natCast, cV, cR, c_set, List.length_set]
        · have t1 : (((p + r : Nat) : Int) < ((p + x : Nat) : Int)) = True := eq_true (by omega)
          have t2 : (((p + x : Nat) : Int) < ((p + (c + x - r) : Nat) : Int)) = True := eq_true (by omega)
          have t3 : (((p : Nat) : Int) < ((p + r : Nat) : Int)) = True := eq_true (by omega)
          have t4 : (((p + r : Nat) : Int) < ((p + c : Nat) : Int)) = True := eq_true (by omega)
          have t5 : (((p + c : Nat) : Int) < ((p + (c + x - r) : Nat) : Int)) = True := eq_true (by omega)
          have t6 : (((p + (c + x - r) : Nat) : Int) < ((p + x + y : Nat) : Int)) = False := eq_false (by omega)
          simp -implicitDefEqProofs only [RL0, RL1, RL2, RL3, RL4, RL5, RL6, RL7, RL8, RL9, chkW, ↓get_cons', ↓hget_cons', ↓hset_cons', St.gh, isNil, evalA, opTs, LOp.args, Nat.reduceBEq, renS, ren1, ren0, renB, only, sg, gmOf, wrN, buildCells, bsRows, Value.oneCell', setAt, eqCells, eqCell, vI, vB, vS, apartW, Nat.reduceEqDiff, Nat.reduceAdd, Nat.reduceSub, Nat.reduceMul, Nat.reduceLT, Nat.reduceLeDiff, Int.reduceEq, Int.reduceNe, Int.reduceLT, Int.reduceLE, reduceCtorEq, ↓reduceIte, ne_eq, eq_self, and_self, str_eq_iff, Int.toNat_natCast, cV, cR, c_set, List.length_set, e2, t1, t2, t3, t4, t5, t6]
          refine callL_of (s1 ⟨by omega, by omega⟩) [(1000, 1000)] false [] [] ?_ ?_
          · refine CallOk.of ?_ ?_ rfl ?_ rfl rfl rfl rfl ?_ rfl ?_ rfl
            all_goals simp [ML, args1, arg1, args0, lents1, lent1, lent0, lents0, lentB, rowsM, body0, only, sg, injB, apartB, keysOf, cur, resS, ↓get_cons', ↓hget_cons', Value.oneCell', eq_self, and_self, ne_eq, vI, rK_nil, rK_len, rK_take, rM_len, rM_take, Int.toNat_natCast, cV, cR, c_set, List.length_set, e2, t1, t2, t3, t4, t5, t6]
          simp -implicitDefEqProofs only [RL0, RL1, RL2, RL3, RL4, RL5, RL6, RL7, RL8, RL9, chkW, ↓get_cons', ↓hget_cons', ↓hset_cons', St.gh, isNil, evalA, opTs, LOp.args, Nat.reduceBEq, renS, ren1, ren0, renB, only, sg, gmOf, wrN, buildCells, bsRows, Value.oneCell', setAt, eqCells, eqCell, vI, vB, vS, apartW, Nat.reduceEqDiff, Nat.reduceAdd, Nat.reduceSub, Nat.reduceMul, Nat.reduceLT, Nat.reduceLeDiff, Int.reduceEq, Int.reduceNe, Int.reduceLT, Int.reduceLE, reduceCtorEq, ↓reduceIte, ne_eq, eq_self, and_self, str_eq_iff, Int.toNat_natCast, cV, cR, c_set, List.length_set, e2, t1, t2, t3, t4, t5, t6]
          refine callL_of (s2 ⟨by omega, by omega⟩) [(1000, 1000)] false [] [] ?_ ?_
          · refine CallOk.of ?_ ?_ rfl ?_ rfl rfl rfl rfl ?_ rfl ?_ rfl
            all_goals simp [ML, args1, arg1, args0, lents1, lent1, lent0, lents0, lentB, rowsM, body0, only, sg, injB, apartB, keysOf, cur, resS, ↓get_cons', ↓hget_cons', Value.oneCell', eq_self, and_self, ne_eq, vI, rK_nil, rK_len, rK_take, rM_len, rM_take, Int.toNat_natCast, cV, cR, c_set, List.length_set, e2, t1, t2, t3, t4, t5, t6]
          simp -implicitDefEqProofs only [RL0, RL1, RL2, RL3, RL4, RL5, RL6, RL7, RL8, RL9, chkW, ↓get_cons', ↓hget_cons', ↓hset_cons', St.gh, isNil, evalA, opTs, LOp.args, Nat.reduceBEq, renS, ren1, ren0, renB, only, sg, gmOf, wrN, buildCells, bsRows, Value.oneCell', setAt, eqCells, eqCell, vI, vB, vS, apartW, Nat.reduceEqDiff, Nat.reduceAdd, Nat.reduceSub, Nat.reduceMul, Nat.reduceLT, Nat.reduceLeDiff, Int.reduceEq, Int.reduceNe, Int.reduceLT, Int.reduceLE, reduceCtorEq, ↓reduceIte, ne_eq, eq_self, and_self, str_eq_iff, Int.toNat_natCast, cV, cR, c_set, List.length_set, e2, t1, t2, t3, t4, t5, t6]
          rw [d3 (by omega)]
          refine RetOk.of [(1000, 1000)] [] ?_ ?_ rfl ?_ rfl rfl ?_
          all_goals simp [ML, args1, arg1, args0, lents1, lent1, lent0, lents0, lentB, rowsM, body0, only, sg, injB, apartB, keysOf, cur, resS, ↓get_cons', ↓hget_cons', Value.oneCell', eq_self, and_self, ne_eq, vI, rK_nil, Int.toNat_natCast, cV, cR, c_set, List.length_set]
      · by_cases hD : c - r < y
        · have t1 : (((p + r : Nat) : Int) < ((p + x : Nat) : Int)) = True := eq_true (by omega)
          have t2 : (((p + x : Nat) : Int) < ((p + (c + x - r) : Nat) : Int)) = True := eq_true (by omega)
          have t3 : (((p : Nat) : Int) < ((p + r : Nat) : Int)) = False := eq_false (by omega)
          have t4 : (((p + r : Nat) : Int) < ((p + c : Nat) : Int)) = True := eq_true (by omega)
          have t5 : (((p + c : Nat) : Int) < ((p + (c + x - r) : Nat) : Int)) = True := eq_true (by omega)
          have t6 : (((p + (c + x - r) : Nat) : Int) < ((p + x + y : Nat) : Int)) = True := eq_true (by omega)
          simp -implicitDefEqProofs only [RL0, RL1, RL2, RL3, RL4, RL5, RL6, RL7, RL8, RL9, chkW, ↓get_cons', ↓hget_cons', ↓hset_cons', St.gh, isNil, evalA, opTs, LOp.args, Nat.reduceBEq, renS, ren1, ren0, renB, only, sg, gmOf, wrN, buildCells, bsRows, Value.oneCell', setAt, eqCells, eqCell, vI, vB, vS, apartW, Nat.reduceEqDiff, Nat.reduceAdd, Nat.reduceSub, Nat.reduceMul, Nat.reduceLT, Nat.reduceLeDiff, Int.reduceEq, Int.reduceNe, Int.reduceLT, Int.reduceLE, reduceCtorEq, ↓reduceIte, ne_eq, eq_self, and_self, str_eq_iff, Int.toNat_natCast, cV, cR, c_set, List.length_set, e2, t1, t2, t3, t4, t5, t6]
          refine callL_of (s1 ⟨by omega, by omega⟩) [(1000, 1000)] false [] [] ?_ ?_
          · refine CallOk.of ?_ ?_ rfl ?_ rfl rfl rfl rfl ?_ rfl ?_ rfl
            all_goals simp [ML, args1, arg1, args0, lents1, lent1, lent0, lents0, lentB, rowsM, body0, only, sg, injB, apartB, keysOf, cur, resS, ↓get_cons', ↓hget_cons', Value.oneCell', eq_self, and_self, ne_eq, vI, rK_nil, rK_len, rK_take, rM_len, rM_take, Int.toNat_natCast, cV, cR, c_set, List.length_set, e2, t1, t2, t3, t4, t5, t6]
          simp -implicitDefEqProofs only [RL0, RL1, RL2, RL3, RL4, RL5, RL6, RL7, RL8, RL9, chkW, ↓get_cons', ↓hget_cons', ↓hset_cons', St.gh, isNil, evalA, opTs, LOp.args, Nat.reduceBEq, renS, ren1, ren0, renB, only, sg, gmOf, wrN, buildCells, bsRows, Value.oneCell', setAt, eqCells, eqCell, vI, vB, vS, apartW, Nat.reduceEqDiff, Nat.reduceAdd, Nat.reduceSub, Nat.reduceMul, Nat.reduceLT, Nat.reduceLeDiff, Int.reduceEq, Int.reduceNe, Int.reduceLT, Int.reduceLE, reduceCtorEq, ↓reduceIte, ne_eq, eq_self, and_self, str_eq_iff, Int.toNat_natCast, cV, cR, c_set, List.length_set, e2, t1, t2, t3, t4, t5, t6]
          rw [d2 (by omega)]
          refine callL_of (s3 ⟨by omega, by omega⟩) [(1000, 1000)] false [] [] ?_ ?_
          · refine CallOk.of ?_ ?_ rfl ?_ rfl rfl rfl rfl ?_ rfl ?_ rfl
            all_goals simp [ML, args1, arg1, args0, lents1, lent1, lent0, lents0, lentB, rowsM, body0, only, sg, injB, apartB, keysOf, cur, resS, ↓get_cons', ↓hget_cons', Value.oneCell', eq_self, and_self, ne_eq, vI, rK_nil, rK_len, rK_take, rM_len, rM_take, Int.toNat_natCast, cV, cR, c_set, List.length_set, e2, t1, t2, t3, t4, t5, t6]
          simp -implicitDefEqProofs only [RL0, RL1, RL2, RL3, RL4, RL5, RL6, RL7, RL8, RL9, chkW, ↓get_cons', ↓hget_cons', ↓hset_cons', St.gh, isNil, evalA, opTs, LOp.args, Nat.reduceBEq, renS, ren1, ren0, renB, only, sg, gmOf, wrN, buildCells, bsRows, Value.oneCell', setAt, eqCells, eqCell, vI, vB, vS, apartW, Nat.reduceEqDiff, Nat.reduceAdd, Nat.reduceSub, Nat.reduceMul, Nat.reduceLT, Nat.reduceLeDiff, Int.reduceEq, Int.reduceNe, Int.reduceLT, Int.reduceLE, reduceCtorEq, ↓reduceIte, ne_eq, eq_self, and_self, str_eq_iff, Int.toNat_natCast, cV, cR, c_set, List.length_set, e2, t1, t2, t3, t4, t5, t6]
          refine RetOk.of [(1000, 1000)] [] ?_ ?_ rfl ?_ rfl rfl ?_
          all_goals simp [ML, args1, arg1, args0, lents1, lent1, lent0, lents0, lentB, rowsM, body0, only, sg, injB, apartB, keysOf, cur, resS, ↓get_cons', ↓hget_cons', Value.oneCell', eq_self, and_self, ne_eq, vI, rK_nil, Int.toNat_natCast, cV, cR, c_set, List.length_set]
        · have t1 : (((p + r : Nat) : Int) < ((p + x : Nat) : Int)) = True := eq_true (by omega)
          have t2 : (((p + x : Nat) : Int) < ((p + (c + x - r) : Nat) : Int)) = True := eq_true (by omega)
          have t3 : (((p : Nat) : Int) < ((p + r : Nat) : Int)) = False := eq_false (by omega)
          have t4 : (((p + r : Nat) : Int) < ((p + c : Nat) : Int)) = True := eq_true (by omega)
          have t5 : (((p + c : Nat) : Int) < ((p + (c + x - r) : Nat) : Int)) = True := eq_true (by omega)
          have t6 : (((p + (c + x - r) : Nat) : Int) < ((p + x + y : Nat) : Int)) = False := eq_false (by omega)
          simp -implicitDefEqProofs only [RL0, RL1, RL2, RL3, RL4, RL5, RL6, RL7, RL8, RL9, chkW, ↓get_cons', ↓hget_cons', ↓hset_cons', St.gh, isNil, evalA, opTs, LOp.args, Nat.reduceBEq, renS, ren1, ren0, renB, only, sg, gmOf, wrN, buildCells, bsRows, Value.oneCell', setAt, eqCells, eqCell, vI, vB, vS, apartW, Nat.reduceEqDiff, Nat.reduceAdd, Nat.reduceSub, Nat.reduceMul, Nat.reduceLT, Nat.reduceLeDiff, Int.reduceEq, Int.reduceNe, Int.reduceLT, Int.reduceLE, reduceCtorEq, ↓reduceIte, ne_eq, eq_self, and_self, str_eq_iff, Int.toNat_natCast, cV, cR, c_set, List.length_set, e2, t1, t2, t3, t4, t5, t6]
          refine callL_of (s1 ⟨by omega, by omega⟩) [(1000, 1000)] false [] [] ?_ ?_
          · refine CallOk.of ?_ ?_ rfl ?_ rfl rfl rfl rfl ?_ rfl ?_ rfl
            all_goals simp [ML, args1, arg1, args0, lents1, lent1, lent0, lents0, lentB, rowsM, body0, only, sg, injB, apartB, keysOf, cur, resS, ↓get_cons', ↓hget_cons', Value.oneCell', eq_self, and_self, ne_eq, vI, rK_nil, rK_len, rK_take, rM_len, rM_take, Int.toNat_natCast, cV, cR, c_set, List.length_set, e2, t1, t2, t3, t4, t5, t6]
          simp -implicitDefEqProofs only [RL0, RL1, RL2, RL3, RL4, RL5, RL6, RL7, RL8, RL9, chkW, ↓get_cons', ↓hget_cons', ↓hset_cons', St.gh, isNil, evalA, opTs, LOp.args, Nat.reduceBEq, renS, ren1, ren0, renB, only, sg, gmOf, wrN, buildCells, bsRows, Value.oneCell', setAt, eqCells, eqCell, vI, vB, vS, apartW, Nat.reduceEqDiff, Nat.reduceAdd, Nat.reduceSub, Nat.reduceMul, Nat.reduceLT, Nat.reduceLeDiff, Int.reduceEq, Int.reduceNe, Int.reduceLT, Int.reduceLE, reduceCtorEq, ↓reduceIte, ne_eq, eq_self, and_self, str_eq_iff, Int.toNat_natCast, cV, cR, c_set, List.length_set, e2, t1, t2, t3, t4, t5, t6]
          rw [d2 (by omega)]
          rw [d3 (by omega)]
          refine RetOk.of [(1000, 1000)] [] ?_ ?_ rfl ?_ rfl rfl ?_
          all_goals simp [ML, args1, arg1, args0, lents1, lent1, lent0, lents0, lentB, rowsM, body0, only, sg, injB, apartB, keysOf, cur, resS, ↓get_cons', ↓hget_cons', Value.oneCell', eq_self, and_self, ne_eq, vI, rK_nil, Int.toNat_natCast, cV, cR, c_set, List.length_set]
    · by_cases hC : 0 < r
      · by_cases hD : c - r < y
        · have t1 : (((p + r : Nat) : Int) < ((p + x : Nat) : Int)) = True := eq_true (by omega)
          have t2 : (((p + x : Nat) : Int) < ((p + (c + x - r) : Nat) : Int)) = False := eq_false (by omega)
          have t3 : (((p : Nat) : Int) < ((p + r : Nat) : Int)) = True := eq_true (by omega)
          have t4 : (((p + r : Nat) : Int) < ((p + c : Nat) : Int)) = False := eq_false (by omega)
          have t5 : (((p + c : Nat) : Int) < ((p + (c + x - r) : Nat) : Int)) = True := eq_true (by omega)
          have t6 : (((p + (c + x - r) : Nat) : Int) < ((p + x + y : Nat) : Int)) = True := eq_true (by omega)
          rw [d1 (by omega)]
          simp -implicitDefEqProofs only [RL0, RL1, RL2, RL3, RL4, RL5, RL6, RL7, RL8, RL9, chkW, ↓get_cons', ↓hget_cons', ↓hset_cons', St.gh, isNil, evalA, opTs, LOp.args, Nat.reduceBEq, renS, ren1, ren0, renB, only, sg, gmOf, wrN, buildCells, bsRows, Value.oneCell', setAt, eqCells, eqCell, vI, vB, vS, apartW, Nat.reduceEqDiff, Nat.reduceAdd, Nat.reduceSub, Nat.reduceMul, Nat.reduceLT, Nat.reduceLeDiff, Int.reduceEq, Int.reduceNe, Int.reduceLT, Int.reduceLE, reduceCtorEq, ↓reduceIte, ne_eq, eq_self, and_self, str_eq_iff, Int.toNat_natCast, cV, cR, c_set, List.length_set, e2, t1, t2, t3, t4, t5, t6]
          rw [d2 (by omega)]
          refine callL_of (s3 ⟨by omega, by omega⟩) [(1000, 1000)] false [] [] ?_ ?_
          · refine CallOk.of ?_ ?_ rfl ?_ rfl rfl rfl rfl ?_ rfl ?_ rfl
            all_goals simp [ML, args1, arg1, args0, lents1, lent1, lent0, lents0, lentB, rowsM, body0, only, sg, injB, apartB, keysOf, cur, resS, ↓get_cons', ↓hget_cons', Value.oneCell', eq_self, and_self, ne_eq, vI, rK_nil, rK_len, rK_take, rM_len, rM_take, Int.toNat_natCast, cV, cR, c_set, List.length_set, e2, t1, t2, t3, t4, t5, t6]
          simp -implicitDefEqProofs only [RL0, RL1, RL2, RL3, RL4, RL5, RL6, RL7, RL8, RL9, chkW, ↓get_cons', ↓hget_cons', ↓hset_cons', St.gh, isNil, evalA, opTs, LOp.args, Nat.reduceBEq, renS, ren1, ren0, renB, only, sg, gmOf, wrN, buildCells, bsRows, Value.oneCell', setAt, eqCells, eqCell, vI, vB, vS, apartW, Nat.reduceEqDiff, Nat.reduceAdd, Nat.reduceSub, Nat.reduceMul, Nat.reduceLT, Nat.reduceLeDiff, Int.reduceEq, Int.reduceNe, Int.reduceLT, Int.reduceLE, reduceCtorEq, ↓reduceIte, ne_eq, eq_self, and_self, str_eq_iff, Int.toNat_natCast, cV, cR, c_set, List.length_set, e2, t1, t2, t3, t4, t5, t6]
          refine RetOk.of [(1000, 1000)] [] ?_ ?_ rfl ?_ rfl rfl ?_
          all_goals simp [ML, args1, arg1, args0, lents1, lent1, lent0, lents0, lentB, rowsM, body0, only, sg, injB, apartB, keysOf, cur, resS, ↓get_cons', ↓hget_cons', Value.oneCell', eq_self, and_self, ne_eq, vI, rK_nil, Int.toNat_natCast, cV, cR, c_set, List.length_set]
        · have t1 : (((p + r : Nat) : Int) < ((p + x : Nat) : Int)) = True := eq_true (by omega)
          have t2 : (((p + x : Nat) : Int) < ((p + (c + x - r) : Nat) : Int)) = False := eq_false (by omega)
          have t3 : (((p : Nat) : Int) < ((p + r : Nat) : Int)) = True := eq_true (by omega)
          have t4 : (((p + r : Nat) : Int) < ((p + c : Nat) : Int)) = False := eq_false (by omega)
          have t5 : (((p + c : Nat) : Int) < ((p + (c + x - r) : Nat) : Int)) = True := eq_true (by omega)
          have t6 : (((p + (c + x - r) : Nat) : Int) < ((p + x + y : Nat) : Int)) = False := eq_false (by omega)
          rw [d1 (by omega)]
          simp -implicitDefEqProofs only [RL0, RL1, RL2, RL3, RL4, RL5, RL6, RL7, RL8, RL9, chkW, ↓get_cons', ↓hget_cons', ↓hset_cons', St.gh, isNil, evalA, opTs, LOp.args, Nat.reduceBEq, renS, ren1, ren0, renB, only, sg, gmOf, wrN, buildCells, bsRows, Value.oneCell', setAt, eqCells, eqCell, vI, vB, vS, apartW, Nat.reduceEqDiff, Nat.reduceAdd, Nat.reduceSub, Nat.reduceMul, Nat.reduceLT, Nat.reduceLeDiff, Int.reduceEq, Int.reduceNe, Int.reduceLT, Int.reduceLE, reduceCtorEq, ↓reduceIte, ne_eq, eq_self, and_self, str_eq_iff, Int.toNat_natCast, cV, cR, c_set, List.length_set, e2, t1, t2, t3, t4, t5, t6]
          rw [d2 (by omega)]
          rw [d3 (by omega)]
          refine RetOk.of [(1000, 1000)] [] ?_ ?_ rfl ?_ rfl rfl ?_
          all_goals simp [ML, args1, arg1, args0, lents1, lent1, lent0, lents0, lentB, rowsM, body0, only, sg, injB, apartB, keysOf, cur, resS, ↓get_cons', ↓hget_cons', Value.oneCell', eq_self, and_self, ne_eq, vI, rK_nil, Int.toNat_natCast, cV, cR, c_set, List.length_set]
      · by_cases hD : c - r < y
        · have t1 : (((p + r : Nat) : Int) < ((p + x : Nat) : Int)) = True := eq_true (by omega)
          have t2 : (((p + x : Nat) : Int) < ((p + (c + x - r) : Nat) : Int)) = False := eq_false (by omega)
          have t3 : (((p : Nat) : Int) < ((p + r : Nat) : Int)) = False := eq_false (by omega)
          have t4 : (((p + r : Nat) : Int) < ((p + c : Nat) : Int)) = False := eq_false (by omega)
          have t5 : (((p + c : Nat) : Int) < ((p + (c + x - r) : Nat) : Int)) = True := eq_true (by omega)
          have t6 : (((p + (c + x - r) : Nat) : Int) < ((p + x + y : Nat) : Int)) = True := eq_true (by omega)
          rw [d1 (by omega)]
          simp -implicitDefEqProofs only [RL0, RL1, RL2, RL3, RL4, RL5, RL6, RL7, RL8, RL9, chkW, ↓get_cons', ↓hget_cons', ↓hset_cons', St.gh, isNil, evalA, opTs, LOp.args, Nat.reduceBEq, renS, ren1, ren0, renB, only, sg, gmOf, wrN, buildCells, bsRows, Value.oneCell', setAt, eqCells, eqCell, vI, vB, vS, apartW, Nat.reduceEqDiff, Nat.reduceAdd, Nat.reduceSub, Nat.reduceMul, Nat.reduceLT, Nat.reduceLeDiff, Int.reduceEq, Int.reduceNe, Int.reduceLT, Int.reduceLE, reduceCtorEq, ↓reduceIte, ne_eq, eq_self, and_self, str_eq_iff, Int.toNat_natCast, cV, cR, c_set, List.length_set, e2, t1, t2, t3, t4, t5, t6]
          rw [d2 (by omega)]
          refine callL_of (s3 ⟨by omega, by omega⟩) [(1000, 1000)] false [] [] ?_ ?_
          · refine CallOk.of ?_ ?_ rfl ?_ rfl rfl rfl rfl ?_ rfl ?_ rfl
            all_goals simp [ML, args1, arg1, args0, lents1, lent1, lent0, lents0, lentB, rowsM, body0, only, sg, injB, apartB, keysOf, cur, resS, ↓get_cons', ↓hget_cons', Value.oneCell', eq_self, and_self, ne_eq, vI, rK_nil, rK_len, rK_take, rM_len, rM_take, Int.toNat_natCast, cV, cR, c_set, List.length_set, e2, t1, t2, t3, t4, t5, t6]
          simp -implicitDefEqProofs only [RL0, RL1, RL2, RL3, RL4, RL5, RL6, RL7, RL8, RL9, chkW, ↓get_cons', ↓hget_cons', ↓hset_cons', St.gh, isNil, evalA, opTs, LOp.args, Nat.reduceBEq, renS, ren1, ren0, renB, only, sg, gmOf, wrN, buildCells, bsRows, Value.oneCell', setAt, eqCells, eqCell, vI, vB, vS, apartW, Nat.reduceEqDiff, Nat.reduceAdd, Nat.reduceSub, Nat.reduceMul, Nat.reduceLT, Nat.reduceLeDiff, Int.reduceEq, Int.reduceNe, Int.reduceLT, Int.reduceLE, reduceCtorEq, ↓reduceIte, ne_eq, eq_self, and_self, str_eq_iff, Int.toNat_natCast, cV, cR, c_set, List.length_set, e2, t1, t2, t3, t4, t5, t6]
          refine RetOk.of [(1000, 1000)] [] ?_ ?_ rfl ?_ rfl rfl ?_
          all_goals simp [ML, args1, arg1, args0, lents1, lent1, lent0, lents0, lentB, rowsM, body0, only, sg, injB, apartB, keysOf, cur, resS, ↓get_cons', ↓hget_cons', Value.oneCell', eq_self, and_self, ne_eq, vI, rK_nil, Int.toNat_natCast, cV, cR, c_set, List.length_set]
        · have t1 : (((p + r : Nat) : Int) < ((p + x : Nat) : Int)) = True := eq_true (by omega)
          have t2 : (((p + x : Nat) : Int) < ((p + (c + x - r) : Nat) : Int)) = False := eq_false (by omega)
          have t3 : (((p : Nat) : Int) < ((p + r : Nat) : Int)) = False := eq_false (by omega)
          have t4 : (((p + r : Nat) : Int) < ((p + c : Nat) : Int)) = False := eq_false (by omega)
          have t5 : (((p + c : Nat) : Int) < ((p + (c + x - r) : Nat) : Int)) = True := eq_true (by omega)
          have t6 : (((p + (c + x - r) : Nat) : Int) < ((p + x + y : Nat) : Int)) = False := eq_false (by omega)
          rw [d1 (by omega)]
          simp -implicitDefEqProofs only [RL0, RL1, RL2, RL3, RL4, RL5, RL6, RL7, RL8, RL9, chkW, ↓get_cons', ↓hget_cons', ↓hset_cons', St.gh, isNil, evalA, opTs, LOp.args, Nat.reduceBEq, renS, ren1, ren0, renB, only, sg, gmOf, wrN, buildCells, bsRows, Value.oneCell', setAt, eqCells, eqCell, vI, vB, vS, apartW, Nat.reduceEqDiff, Nat.reduceAdd, Nat.reduceSub, Nat.reduceMul, Nat.reduceLT, Nat.reduceLeDiff, Int.reduceEq, Int.reduceNe, Int.reduceLT, Int.reduceLE, reduceCtorEq, ↓reduceIte, ne_eq, eq_self, and_self, str_eq_iff, Int.toNat_natCast, cV, cR, c_set, List.length_set, e2, t1, t2, t3, t4, t5, t6]
          rw [d2 (by omega)]
          rw [d3 (by omega)]
          refine RetOk.of [(1000, 1000)] [] ?_ ?_ rfl ?_ rfl rfl ?_
          all_goals simp [ML, args1, arg1, args0, lents1, lent1, lent0, lents0, lentB, rowsM, body0, only, sg, injB, apartB, keysOf, cur, resS, ↓get_cons', ↓hget_cons', Value.oneCell', eq_self, and_self, ne_eq, vI, rK_nil, Int.toNat_natCast, cV, cR, c_set, List.length_set]
  · by_cases hB : r < c
    · by_cases hC : 0 < r
      · by_cases hD : c - r < y
        · have t1 : (((p + r : Nat) : Int) < ((p + x : Nat) : Int)) = False := eq_false (by omega)
          have t2 : (((p + x : Nat) : Int) < ((p + (c + x - r) : Nat) : Int)) = True := eq_true (by omega)
          have t3 : (((p : Nat) : Int) < ((p + r : Nat) : Int)) = True := eq_true (by omega)
          have t4 : (((p + r : Nat) : Int) < ((p + c : Nat) : Int)) = True := eq_true (by omega)
          have t5 : (((p + c : Nat) : Int) < ((p + (c + x - r) : Nat) : Int)) = False := eq_false (by omega)
          have t6 : (((p + (c + x - r) : Nat) : Int) < ((p + x + y : Nat) : Int)) = True := eq_true (by omega)
          rw [d1 (by omega)]
          simp -implicitDefEqProofs only [RL0, RL1, RL2, RL3, RL4, RL5, RL6, RL7, RL8, RL9, chkW, ↓get_cons', ↓hget_cons', ↓hset_cons', St.gh, isNil, evalA, opTs, LOp.args, Nat.reduceBEq, renS, ren1, ren0, renB, only, sg, gmOf, wrN, buildCells, bsRows, Value.oneCell', setAt, eqCells, eqCell, vI, vB, vS, apartW, Nat.reduceEqDiff, Nat.reduceAdd, Nat.reduceSub, Nat.reduceMul, Nat.reduceLT, Nat.reduceLeDiff, Int.reduceEq, Int.reduceNe, Int.reduceLT, Int.reduceLE, reduceCtorEq, ↓reduceIte, ne_eq, eq_self, and_self, str_eq_iff, Int.toNat_natCast, cV, cR, c_set, List.length_set, e2, t1, t2, t3, t4, t5, t6]
          refine callL_of (s2 ⟨by omega, by omega⟩) [(1000, 1000)] false [] [] ?_ ?_
          · refine CallOk.of ?_ ?_ rfl ?_ rfl rfl rfl rfl ?_ rfl ?_ rfl
            all_goals simp [ML, args1, arg1, args0, lents1, lent1, lent0, lents0, lentB, rowsM, body0, only, sg, injB, apartB, keysOf, cur, resS, ↓get_cons', ↓hget_cons', Value.oneCell', eq_self, and_self, ne_eq, vI, rK_nil, rK_len, rK_take, rM_len, rM_take, Int.toNat_natCast, cV, cR, c_set, List.length_set, e2, t1, t2, t3, t4, t5, t6]
          simp -implicitDefEqProofs only [RL0, RL1, RL2, RL3, RL4, RL5, RL6, RL7, RL8, RL9, chkW, ↓get_cons', ↓hget_cons', ↓hset_cons', St.gh, isNil, evalA, opTs, LOp.args, Nat.reduceBEq, renS, ren1, ren0, renB, only, sg, gmOf, wrN, buildCells, bsRows, Value.oneCell', setAt, eqCells, eqCell, vI, vB, vS, apartW, Nat.reduceEqDiff, Nat.reduceAdd, Nat.reduceSub, Nat.reduceMul, Nat.reduceLT, Nat.reduceLeDiff, Int.reduceEq, Int.reduceNe, Int.reduceLT, Int.reduceLE, reduceCtorEq, ↓reduceIte, ne_eq, eq_self, and_self, str_eq_iff, Int.toNat_natCast, cV, cR, c_set, List.length_set, e2, t1, t2, t3, t4, t5, t6]
          rw [d3 (by omega)]
          refine RetOk.of [(1000, 1000)] [] ?_ ?_ rfl ?_ rfl rfl ?_
          all_goals simp [ML, args1, arg1, args0, lents1, lent1, lent0, lents0, lentB, rowsM, body0, only, sg, injB, apartB, keysOf, cur, resS, ↓get_cons', ↓hget_cons', Value.oneCell', eq_self, and_self, ne_eq, vI, rK_nil, Int.toNat_natCast, cV, cR, c_set, List.length_set]
        · have t1 : (((p + r : Nat) : Int) < ((p + x : Nat) : Int)) = False := eq_false (by omega)
          have t2 : (((p + x : Nat) : Int) < ((p + (c + x - r) : Nat) : Int)) = True := eq_true (by omega)
          have t3 : (((p : Nat) : Int) < ((p + r : Nat) : Int)) = True := eq_true (by omega)
          have t4 : (((p + r : Nat) : Int) < ((p + c : Nat) : Int)) = True := eq_true (by omega)
          have t5 : (((p + c : Nat) : Int) < ((p + (c + x - r) : Nat) : Int)) = False := eq_false (by omega)
          have t6 : (((p + (c + x - r) : Nat) : Int) < ((p + x + y : Nat) : Int)) = False := eq_false (by omega)
          rw [d1 (by omega)]
          simp -implicitDefEqProofs only [RL0, RL1, RL2, RL3, RL4, RL5, RL6, RL7, RL8, RL9, chkW, ↓get_cons', ↓hget_cons', ↓hset_cons', St.gh, isNil, evalA, opTs, LOp.args, Nat.reduceBEq, renS, ren1, ren0, renB, only, sg, gmOf, wrN, buildCells, bsRows, Value.oneCell', setAt, eqCells, eqCell, vI, vB, vS, apartW, Nat.reduceEqDiff, Nat.reduceAdd, Nat.reduceSub, Nat.reduceMul, Nat.reduceLT, Nat.reduceLeDiff, Int.reduceEq, Int.reduceNe, Int.reduceLT, Int.reduceLE, reduceCtorEq, ↓reduceIte, ne_eq, eq_self, and_self, str_eq_iff, Int.toNat_natCast, cV, cR, c_set, List.length_set, e2, t1, t2, t3, t4, t5, t6]
          refine callL_of (s2 ⟨by omega, by omega⟩) [(1000, 1000)] false [] [] ?_ ?_
          · refine CallOk.of ?_ ?_ rfl ?_ rfl rfl rfl rfl ?_ rfl ?_ rfl
            all_goals simp [ML, args1, arg1, args0, lents1, lent1, lent0, lents0, lentB, rowsM, body0, only, sg, injB, apartB, keysOf, cur, resS, ↓get_cons', ↓hget_cons', Value.oneCell', eq_self, and_self, ne_eq, vI, rK_nil, rK_len, rK_take, rM_len, rM_take, Int.toNat_natCast, cV, cR, c_set, List.length_set, e2, t1, t2, t3, t4, t5, t6]
          simp -implicitDefEqProofs only [RL0, RL1, RL2, RL3, RL4, RL5, RL6, RL7, RL8, RL9, chkW, ↓get_cons', ↓hget_cons', ↓hset_cons', St.gh, isNil, evalA, opTs, LOp.args, Nat.reduceBEq, renS, ren1, ren0, renB, only, sg, gmOf, wrN, buildCells, bsRows, Value.oneCell', setAt, eqCells, eqCell, vI, vB, vS, apartW, Nat.reduceEqDiff, Nat.reduceAdd, Nat.reduceSub, Nat.reduceMul, Nat.reduceLT, Nat.reduceLeDiff, Int.reduceEq, Int.reduceNe, Int.reduceLT, Int.reduceLE, reduceCtorEq, ↓reduceIte, ne_eq, eq_self, and_self, str_eq_iff, Int.toNat_natCast, cV, cR, c_set, List.length_set, e2, t1, t2, t3, t4, t5, t6]
          rw [d3 (by omega)]
          refine RetOk.of [(1000, 1000)] [] ?_ ?_ rfl ?_ rfl rfl ?_
          all_goals simp [ML, args1, arg1, args0, lents1, lent1, lent0, lents0, lentB, rowsM, body0, only, sg, injB, apartB, keysOf, cur, resS, ↓get_cons', ↓hget_cons', Value.oneCell', eq_self, and_self, ne_eq, vI, rK_nil, Int.toNat_natCast, cV, cR, c_set, List.length_set]
      · by_cases hD : c - r < y
        · have t1 : (((p + r : Nat) : Int) < ((p + x : Nat) : Int)) = False := eq_false (by omega)
          have t2 : (((p + x : Nat) : Int) < ((p + (c + x - r) : Nat) : Int)) = True := eq_true (by omega)
          have t3 : (((p : Nat) : Int) < ((p + r : Nat) : Int)) = False := eq_false (by omega)
          have t4 : (((p + r : Nat) : Int) < ((p + c : Nat) : Int)) = True := eq_true (by omega)
          have t5 : (((p + c : Nat) : Int) < ((p + (c + x - r) : Nat) : Int)) = False := eq_false (by omega)
          have t6 : (((p + (c + x - r) : Nat) : Int) < ((p + x + y : Nat) : Int)) = True := eq_true (by omega)
          rw [d1 (by omega)]
          simp -implicitDefEqProofs only [RL0, RL1, RL2, RL3, RL4, RL5, RL6, RL7, RL8, RL9, chkW, ↓get_cons', ↓hget_cons', ↓hset_cons', St.gh, isNil, evalA, opTs, LOp.args, Nat.reduceBEq, renS, ren1, ren0, renB, only, sg, gmOf, wrN, buildCells, bsRows, Value.oneCell', setAt, eqCells, eqCell, vI, vB, vS, apartW, Nat.reduceEqDiff, Nat.reduceAdd, Nat.reduceSub, Nat.reduceMul, Nat.reduceLT, Nat.reduceLeDiff, Int.reduceEq, Int.reduceNe, Int.reduceLT, Int.reduceLE, reduceCtorEq, ↓reduceIte, ne_eq, eq_self, and_self, str_eq_iff, Int.toNat_natCast, cV, cR, c_set, List.length_set, e2, t1, t2, t3, t4, t5, t6]
          rw [d2 (by omega)]
          rw [d3 (by omega)]
          refine RetOk.of [(1000, 1000)] [] ?_ ?_ rfl ?_ rfl rfl ?_
          all_goals simp [ML, args1, arg1, args0, lents1, lent1, lent0, lents0, lentB, rowsM, body0, only, sg, injB, apartB, keysOf, cur, resS, ↓get_cons', ↓hget_cons', Value.oneCell', eq_self, and_self, ne_eq, vI, rK_nil, Int.toNat_natCast, cV, cR, c_set, List.length_set]
        · have t1 : (((p + r : Nat) : Int) < ((p + x : Nat) : Int)) = False := eq_false (by omega)
          have t2 : (((p + x : Nat) : Int) < ((p + (c + x - r) : Nat) : Int)) = True := eq_true (by omega)
          have t3 : (((p : Nat) : Int) < ((p + r : Nat) : Int)) = False := eq_false (by omega)
          have t4 : (((p + r : Nat) : Int) < ((p + c : Nat) : Int)) = True := eq_true (by omega)
          have t5 : (((p + c : Nat) : Int) < ((p + (c + x - r) : Nat) : Int)) = False := eq_false (by omega)
          have t6 : (((p + (c + x - r) : Nat) : Int) < ((p + x + y : Nat) : Int)) = False := eq_false (by omega)
          rw [d1 (by omega)]
          simp -implicitDefEqProofs only [RL0, RL1, RL2, RL3, RL4, RL5, RL6, RL7, RL8, RL9, chkW, ↓get_cons', ↓hget_cons', ↓hset_cons', St.gh, isNil, evalA, opTs, LOp.args, Nat.reduceBEq, renS, ren1, ren0, renB, only, sg, gmOf, wrN, buildCells, bsRows, Value.oneCell', setAt, eqCells, eqCell, vI, vB, vS, apartW, Nat.reduceEqDiff, Nat.reduceAdd, Nat.reduceSub, Nat.reduceMul, Nat.reduceLT, Nat.reduceLeDiff, Int.reduceEq, Int.reduceNe, Int.reduceLT, Int.reduceLE, reduceCtorEq, ↓reduceIte, ne_eq, eq_self, and_self, str_eq_iff, Int.toNat_natCast, cV, cR, c_set, List.length_set, e2, t1, t2, t3, t4, t5, t6]
          rw [d2 (by omega)]
          rw [d3 (by omega)]
          refine RetOk.of [(1000, 1000)] [] ?_ ?_ rfl ?_ rfl rfl ?_
          all_goals simp [ML, args1, arg1, args0, lents1, lent1, lent0, lents0, lentB, rowsM, body0, only, sg, injB, apartB, keysOf, cur, resS, ↓get_cons', ↓hget_cons', Value.oneCell', eq_self, and_self, ne_eq, vI, rK_nil, Int.toNat_natCast, cV, cR, c_set, List.length_set]
    · by_cases hC : 0 < r
      · by_cases hD : c - r < y
        · have t1 : (((p + r : Nat) : Int) < ((p + x : Nat) : Int)) = False := eq_false (by omega)
          have t2 : (((p + x : Nat) : Int) < ((p + (c + x - r) : Nat) : Int)) = False := eq_false (by omega)
          have t3 : (((p : Nat) : Int) < ((p + r : Nat) : Int)) = True := eq_true (by omega)
          have t4 : (((p + r : Nat) : Int) < ((p + c : Nat) : Int)) = False := eq_false (by omega)
          have t5 : (((p + c : Nat) : Int) < ((p + (c + x - r) : Nat) : Int)) = False := eq_false (by omega)
          have t6 : (((p + (c + x - r) : Nat) : Int) < ((p + x + y : Nat) : Int)) = True := eq_true (by omega)
          rw [d1 (by omega)]
          simp -implicitDefEqProofs only [RL0, RL1, RL2, RL3, RL4, RL5, RL6, RL7, RL8, RL9, chkW, ↓get_cons', ↓hget_cons', ↓hset_cons', St.gh, isNil, evalA, opTs, LOp.args, Nat.reduceBEq, renS, ren1, ren0, renB, only, sg, gmOf, wrN, buildCells, bsRows, Value.oneCell', setAt, eqCells, eqCell, vI, vB, vS, apartW, Nat.reduceEqDiff, Nat.reduceAdd, Nat.reduceSub, Nat.reduceMul, Nat.reduceLT, Nat.reduceLeDiff, Int.reduceEq, Int.reduceNe, Int.reduceLT, Int.reduceLE, reduceCtorEq, ↓reduceIte, ne_eq, eq_self, and_self, str_eq_iff, Int.toNat_natCast, cV, cR, c_set, List.length_set, e2, t1, t2, t3, t4, t5, t6]
          rw [d2 (by omega)]
          rw [d3 (by omega)]
          refine RetOk.of [(1000, 1000)] [] ?_ ?_ rfl ?_ rfl rfl ?_
          all_goals simp [ML, args1, arg1, args0, lents1, lent1, lent0, lents0, lentB, rowsM, body0, only, sg, injB, apartB, keysOf, cur, resS, ↓get_cons', ↓hget_cons', Value.oneCell', eq_self, and_self, ne_eq, vI, rK_nil, Int.toNat_natCast, cV, cR, c_set, List.length_set]
        · have t1 : (((p + r : Nat) : Int) < ((p + x : Nat) : Int)) = False := eq_false (by omega)
          have t2 : (((p + x : Nat) : Int) < ((p + (c + x - r) : Nat) : Int)) = False := eq_false (by omega)
          have t3 : (((p : Nat) : Int) < ((p + r : Nat) : Int)) = True := eq_true (by omega)
          have t4 : (((p + r : Nat) : Int) < ((p + c : Nat) : Int)) = False := eq_false (by omega)
          have t5 : (((p + c : Nat) : Int) < ((p + (c + x - r) : Nat) : Int)) = False := eq_false (by omega)
          have t6 : (((p + (c + x - r) : Nat) : Int) < ((p + x + y : Nat) : Int)) = False := eq_false (by omega)
          rw [d1 (by omega)]
          simp -implicitDefEqProofs only [RL0, RL1, RL2, RL3, RL4, RL5, RL6, RL7, RL8, RL9, chkW, ↓get_cons', ↓hget_cons', ↓hset_cons', St.gh, isNil, evalA, opTs, LOp.args, Nat.reduceBEq, renS, ren1, ren0, renB, only, sg, gmOf, wrN, buildCells, bsRows, Value.oneCell', setAt, eqCells, eqCell, vI, vB, vS, apartW, Nat.reduceEqDiff, Nat.reduceAdd, Nat.reduceSub, Nat.reduceMul, Nat.reduceLT, Nat.reduceLeDiff, Int.reduceEq, Int.reduceNe, Int.reduceLT, Int.reduceLE, reduceCtorEq, ↓reduceIte, ne_eq, eq_self, and_self, str_eq_iff, Int.toNat_natCast, cV, cR, c_set, List.length_set, e2, t1, t2, t3, t4, t5, t6]
          rw [d2 (by omega)]
          rw [d3 (by omega)]
          refine RetOk.of [(1000, 1000)] [] ?_ ?_ rfl ?_ rfl rfl ?_
          all_goals simp [ML, args1, arg1, args0, lents1, lent1, lent0, lents0, lentB, rowsM, body0, only, sg, injB, apartB, keysOf, cur, resS, ↓get_cons', ↓hget_cons', Value.oneCell', eq_self, and_self, ne_eq, vI, rK_nil, Int.toNat_natCast, cV, cR, c_set, List.length_set]
      · by_cases hD : c - r < y
        · have t1 : (((p + r : Nat) : Int) < ((p + x : Nat) : Int)) = False := eq_false (by omega)
          have t2 : (((p + x : Nat) : Int) < ((p + (c + x - r) : Nat) : Int)) = False := eq_false (by omega)
          have t3 : (((p : Nat) : Int) < ((p + r : Nat) : Int)) = False := eq_false (by omega)
          have t4 : (((p + r : Nat) : Int) < ((p + c : Nat) : Int)) = False := eq_false (by omega)
          have t5 : (((p + c : Nat) : Int) < ((p + (c + x - r) : Nat) : Int)) = False := eq_false (by omega)
          have t6 : (((p + (c + x - r) : Nat) : Int) < ((p + x + y : Nat) : Int)) = True := eq_true (by omega)
          rw [d1 (by omega)]
          simp -implicitDefEqProofs only [RL0, RL1, RL2, RL3, RL4, RL5, RL6, RL7, RL8, RL9, chkW, ↓get_cons', ↓hget_cons', ↓hset_cons', St.gh, isNil, evalA, opTs, LOp.args, Nat.reduceBEq, renS, ren1, ren0, renB, only, sg, gmOf, wrN, buildCells, bsRows, Value.oneCell', setAt, eqCells, eqCell, vI, vB, vS, apartW, Nat.reduceEqDiff, Nat.reduceAdd, Nat.reduceSub, Nat.reduceMul, Nat.reduceLT, Nat.reduceLeDiff, Int.reduceEq, Int.reduceNe, Int.reduceLT, Int.reduceLE, reduceCtorEq, ↓reduceIte, ne_eq, eq_self, and_self, str_eq_iff, Int.toNat_natCast, cV, cR, c_set, List.length_set, e2, t1, t2, t3, t4, t5, t6]
          rw [d2 (by omega)]
          rw [d3 (by omega)]
          refine RetOk.of [(1000, 1000)] [] ?_ ?_ rfl ?_ rfl rfl ?_
          all_goals simp [ML, args1, arg1, args0, lents1, lent1, lent0, lents0, lentB, rowsM, body0, only, sg, injB, apartB, keysOf, cur, resS, ↓get_cons', ↓hget_cons', Value.oneCell', eq_self, and_self, ne_eq, vI, rK_nil, Int.toNat_natCast, cV, cR, c_set, List.length_set]
        · have t1 : (((p + r : Nat) : Int) < ((p + x : Nat) : Int)) = False := eq_false (by omega)
          have t2 : (((p + x : Nat) : Int) < ((p + (c + x - r) : Nat) : Int)) = False := eq_false (by omega)
          have t3 : (((p : Nat) : Int) < ((p + r : Nat) : Int)) = False := eq_false (by omega)
          have t4 : (((p + r : Nat) : Int) < ((p + c : Nat) : Int)) = False := eq_false (by omega)
          have t5 : (((p + c : Nat) : Int) < ((p + (c + x - r) : Nat) : Int)) = False := eq_false (by omega)
          have t6 : (((p + (c + x - r) : Nat) : Int) < ((p + x + y : Nat) : Int)) = False := eq_false (by omega)
          rw [d1 (by omega)]
          simp -implicitDefEqProofs only [RL0, RL1, RL2, RL3, RL4, RL5, RL6, RL7, RL8, RL9, chkW, ↓get_cons', ↓hget_cons', ↓hset_cons', St.gh, isNil, evalA, opTs, LOp.args, Nat.reduceBEq, renS, ren1, ren0, renB, only, sg, gmOf, wrN, buildCells, bsRows, Value.oneCell', setAt, eqCells, eqCell, vI, vB, vS, apartW, Nat.reduceEqDiff, Nat.reduceAdd, Nat.reduceSub, Nat.reduceMul, Nat.reduceLT, Nat.reduceLeDiff, Int.reduceEq, Int.reduceNe, Int.reduceLT, Int.reduceLE, reduceCtorEq, ↓reduceIte, ne_eq, eq_self, and_self, str_eq_iff, Int.toNat_natCast, cV, cR, c_set, List.length_set, e2, t1, t2, t3, t4, t5, t6]
          rw [d2 (by omega)]
          rw [d3 (by omega)]
          refine RetOk.of [(1000, 1000)] [] ?_ ?_ rfl ?_ rfl rfl ?_
          all_goals simp [ML, args1, arg1, args0, lents1, lent1, lent0, lents0, lentB, rowsM, body0, only, sg, injB, apartB, keysOf, cur, resS, ↓get_cons', ↓hget_cons', Value.oneCell', eq_self, and_self, ne_eq, vI, rK_nil, Int.toNat_natCast, cV, cR, c_set, List.length_set]
end Go.Proofs.Ex
