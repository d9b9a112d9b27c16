import Derived.Test.YthbonnlhoaeflaaExK
set_option linter.unusedVariables false
set_option linter.unusedSimpArgs false
-- DEFS Int.toNat_natCast, Int.cast_ofNat_Int, Int.reduceToNat, Int.toNat_zero, cV, cR
namespace Go.Proofs.Ex
open Go.RowKit Go.Lib Go.Eng Go.Proofs Go.IntWalk
set_option maxRecDepth 100000
set_option linter.unusedVariables false
set_option maxHeartbeats 400000
def L4 : List Z := [(2, 3), (0, 2), (9, 0), (8, 1)]
def L2 : List Z := [(0, 5), (8, 1)]
def H2 : List Z := [(5, 3), (9, 1)]
def M2 : List Z := [(3, 2), (8, 1)]
def D2 : List Z := [(0, 2), (2, 1)]
theorem j0 : fl 0 = 0 := by decide +kernel
theorem j1 : fl 1 = 4607182418800017408 := by decide +kernel
theorem j2 : fl 2 = 4611686018427387904 := by decide +kernel
theorem j3 : fl 3 = 4613937818241073152 := by decide +kernel
theorem j4 : fl 4 = 4616189618054758400 := by decide +kernel
theorem j5 : fl 5 = 4617315517961601024 := by decide +kernel
theorem j8 : fl 8 = 4620693217682128896 := by decide +kernel
theorem j9 : fl 9 = 4621256167635550208 := by decide +kernel
theorem jM : fl 1099511627776 = 4787326403894837248 := by decide +kernel
theorem j300 : fl 300 = 4643985272004935680 := by decide +kernel
theorem fold4 : ([[.v (.complex .f64 4611686018427387904 4613937818241073152)], [.v (.complex .f64 0 4611686018427387904)], [.v (.complex .f64 4621256167635550208 0)], [.v (.complex .f64 4620693217682128896 4607182418800017408)]] : List (List D)) = rM cR L4 := by
  simp only [L4, rM, cR, cV, List.map_cons, List.map_nil, j0, j1, j2, j3, j8, j9]
theorem foldD : ([[.v (.complex .f64 0 4611686018427387904)], [.v (.complex .f64 4611686018427387904 4607182418800017408)]] : List (List D)) = rM cR D2 := by
  simp only [D2, rM, cR, cV, List.map_cons, List.map_nil, j0, j1, j2]
theorem ok4 : ∀ z ∈ L4, okZ z := by decide
theorem ok2 : ∀ z ∈ L2, okZ z := by decide
theorem okD : ∀ z ∈ D2, okZ z := by decide
theorem n4 : normL L4 = L2 := by decide
theorem hh2 : holesL L2 10 = H2 := by decide
theorem mm2 : meetL L2 3 6 = M2 := by decide
theorem t1 : Eng.Spec Try.prog 11 [] [] [.d (.sl 1 (rM cR L4))] [(1000, ⟨0, .arr 1 (rM cR L2)⟩)] (.view 1000 0 0 2) := by have h := norm_spec L4 ok4 (by decide); rwa [n4] at h
theorem t2 : Eng.Spec Try.prog 12 [] [] [.d (.sl 1 (rM cR L2)), .d (.v (.int .i64 10))] [(1000, ⟨0, .arr 1 (rM cR H2)⟩)] (.view 1000 0 0 2) := by have h := holes_spec L2 10 ok2 (by decide); rwa [hh2] at h
theorem t3 : Eng.Spec Try.prog 17 [] [] [.d (.sl 1 (rM cR L2)), .d (.v (.int .i64 3)), .d (.v (.int .i64 6))] [(1000, ⟨0, .arr 1 (rM cR M2)⟩)] (.view 1000 0 0 2) := by have h := meet_spec L2 3 6 ok2 (by decide); rwa [mm2] at h
theorem t4 : Eng.Spec Try.prog 15 [] [] [.d (.sl 1 (rM cR L2)), .d (.v (.int .i64 4))] [] (.d (.v (.bool true))) := by have h := has_spec L2 4 ok2 (by decide); rwa [show decide (inL (normL L2) 4) = true by decide] at h
theorem t5 : Eng.Spec Try.prog 15 [] [] [.d (.sl 1 (rM cR L2)), .d (.v (.int .i64 5))] [] (.d (.v (.bool false))) := by have h := has_spec L2 5 ok2 (by decide); rwa [show decide (inL (normL L2) 5) = false by decide] at h
theorem t6 : Eng.Spec Try.prog 13 [] [] [.d (.sl 1 (rM cR L2)), .d (.v (.int .i64 9))] [] (.d (.v (.bool true))) := by have h := may_spec L2 9 ok2 (by decide); rwa [show decide (mayL L2 9) = true by decide] at h
theorem t7 : Eng.Spec Try.prog 13 [] [] [.d (.sl 1 (rM cR L2)), .d (.v (.int .i64 8))] [] (.d (.v (.bool false))) := by have h := may_spec L2 8 ok2 (by decide); rwa [show decide (mayL L2 8) = false by decide] at h
theorem t8 : Eng.Spec Try.prog 13 [] [] [.d (.sl 1 (rM cR D2)), .d (.v (.int .i64 9))] [] (.d (.v (.bool false))) := by have h := may_spec D2 9 okD (by decide); rwa [show decide (mayL D2 9) = false by decide] at h
theorem t9 : Eng.Spec Try.prog 36 [] [] [.d (.v (.int .i64 (-1))), .d (.v (.int .i64 1125899906842624))] [] (.d (.v (.complex .f64 0 4787326403894837248))) := by
  have h := of_spec (-1) 1125899906842624
  rwa [show cutI (-1) = 0 by decide, show cutI 1125899906842624 = 1099511627776 by decide, cV, j0, jM] at h
theorem t10 : Eng.Spec Try.prog 34 [] [] [.d (.v (.complex .f64 4613937818241073152 4616189618054758400))] [] (.d (.v (.int .i64 3))) := by
  have h := at_spec (3, 4) (by decide); rwa [cV, j3, j4] at h
theorem t11 : Eng.Spec Try.prog 18 [] [] [.d (.v (.complex .f64 4613937818241073152 4616189618054758400))] [] (.d (.v (.int .i64 4))) := by
  have h := long_spec (3, 4) (by decide); rwa [cV, j3, j4] at h
theorem o0 : FloatKind.f64.format.order 0 0 = some .eq := by decide +kernel
theorem o1 : FloatKind.f64.format.order 4607182418800017408 4607182418800017408 = some .eq := by decide +kernel
theorem o2 : FloatKind.f64.format.order 4611686018427387904 4611686018427387904 = some .eq := by decide +kernel
theorem o3 : FloatKind.f64.format.order 4613937818241073152 4613937818241073152 = some .eq := by decide +kernel
theorem o5 : FloatKind.f64.format.order 4617315517961601024 4617315517961601024 = some .eq := by decide +kernel
theorem o8 : FloatKind.f64.format.order 4620693217682128896 4620693217682128896 = some .eq := by decide +kernel
theorem o9 : FloatKind.f64.format.order 4621256167635550208 4621256167635550208 = some .eq := by decide +kernel
theorem oM : FloatKind.f64.format.order 4787326403894837248 4787326403894837248 = some .eq := by decide +kernel
theorem lL4 : L4.length = 4 := rfl
theorem tL4 : List.take 4 L4 = L4 := rfl
theorem lL2 : L2.length = 2 := rfl
theorem tL2 : List.take 2 L2 = L2 := rfl
theorem lH2 : H2.length = 2 := rfl
theorem tH2 : List.take 2 H2 = H2 := rfl
theorem lM2 : M2.length = 2 := rfl
theorem tM2 : List.take 2 M2 = M2 := rfl
theorem lD2 : D2.length = 2 := rfl
theorem tD2 : List.take 2 D2 = D2 := rfl
theorem gL20 : L2.getD 0 default = (0, 5) := rfl
theorem gL21 : L2.getD 1 default = (8, 1) := rfl
theorem gH20 : H2.getD 0 default = (5, 3) := rfl
theorem gH21 : H2.getD 1 default = (9, 1) := rfl
theorem gM20 : M2.getD 0 default = (3, 2) := rfl
theorem gM21 : M2.getD 1 default = (8, 1) := rfl
theorem c_flat (l : List Z) : (∀ r ∈ rM cR l, ∀ d ∈ r, ∃ x, d = D.v x) = True := eq_true (by
  intro r hr d hd
  obtain ⟨z, _, rfl⟩ := List.mem_map.1 hr
  exact ⟨_, List.mem_singleton.1 hd⟩)
theorem told_spec16 : Eng.Spec Try.prog 16 [] [] [] [] (.d (.v (.bool true))) := by
  refine told_spec mixed f16_told f16_results f16_text rfl (by simp) rfl ?_
  simp only [initS, List.length_cons, List.length_nil, List.range, List.range.loop, List.getD_cons_zero, List.getD_cons_succ, List.cons_append, List.nil_append, Int.toNat_natCast, Int.cast_ofNat_Int, Int.reduceToNat, Int.toNat_zero, cV, cR]
  simp -implicitDefEqProofs only [RL0, RL1, RL2, RL3, RL4, RL5, RL6, RL7, RL8, RL9, chkW, ↓get_cons', ↓hget_cons', ↓hset_cons', St.gh, isNil, evalA, opTs, LOp.args, Nat.reduceBEq, renS, ren1, ren0, renB, only, sg, gmOf, wrN, buildCells, bsRows, Value.oneCell', setAt, eqCells, eqCell, vI, vB, vS, apartW, Nat.reduceEqDiff, Nat.reduceAdd, Nat.reduceSub, Nat.reduceMul, Nat.reduceLT, Nat.reduceLeDiff, Int.reduceEq, Int.reduceNe, Int.reduceLT, Int.reduceLE, reduceCtorEq, ↓reduceIte, ne_eq, eq_self, and_self, str_eq_iff]
  simp -implicitDefEqProofs only [RL0, RL1, RL2, RL3, RL4, RL5, RL6, RL7, RL8, RL9, chkW, ↓get_cons', ↓hget_cons', ↓hset_cons', St.gh, isNil, evalA, opTs, LOp.args, Nat.reduceBEq, renS, ren1, ren0, renB, only, sg, gmOf, wrN, buildCells, bsRows, Value.oneCell', setAt, eqCells, eqCell, vI, vB, vS, apartW, Nat.reduceEqDiff, Nat.reduceAdd, Nat.reduceSub, Nat.reduceMul, Nat.reduceLT, Nat.reduceLeDiff, Int.reduceEq, Int.reduceNe, Int.reduceLT, Int.reduceLE, reduceCtorEq, ↓reduceIte, ne_eq, eq_self, and_self, str_eq_iff, Int.toNat_natCast, Int.cast_ofNat_Int, Int.reduceToNat, Int.toNat_zero, cV, cR, fold4]
  refine callL_of (t1) [(1000, 5)] true [4] [] ?_ ?_
  · refine CallOk.of ?_ ?_ rfl ?_ rfl rfl rfl rfl ?_ rfl ?_ rfl
    all_goals simp [ML, args1, arg1, args0, lents1, lent1, lent0, lents0, lentB, rowsM, body0, only, sg, injB, apartB, keysOf, cur, resS, ↓get_cons', ↓hget_cons', Value.oneCell', eq_self, and_self, ne_eq, vI, rK_nil, rK_len, rK_take, rM_len, rM_take, Int.toNat_natCast, Int.cast_ofNat_Int, Int.reduceToNat, Int.toNat_zero, cV, cR, j0, j1, j2, j3, j5, j8, j9, o0, o1, o2, o3, o5, o8, o9, oM, lL2, lH2, lM2, lD2, lL4, gL20, gL21, gH20, gH21, gM20, gM21, foldD, lL2, lH2, lM2, lD2, lL4, tL2, tL4, tD2, S.flat2, S.flat1, S.flat, Body.flat, c_flat]
  simp -implicitDefEqProofs only [RL0, RL1, RL2, RL3, RL4, RL5, RL6, RL7, RL8, RL9, chkW, ↓get_cons', ↓hget_cons', ↓hset_cons', St.gh, isNil, evalA, opTs, LOp.args, Nat.reduceBEq, renS, ren1, ren0, renB, only, sg, gmOf, wrN, buildCells, bsRows, Value.oneCell', setAt, eqCells, eqCell, vI, vB, vS, apartW, Nat.reduceEqDiff, Nat.reduceAdd, Nat.reduceSub, Nat.reduceMul, Nat.reduceLT, Nat.reduceLeDiff, Int.reduceEq, Int.reduceNe, Int.reduceLT, Int.reduceLE, reduceCtorEq, ↓reduceIte, ne_eq, eq_self, and_self, str_eq_iff, Int.toNat_natCast, Int.cast_ofNat_Int, Int.reduceToNat, Int.toNat_zero, cV, cR, j0, j1, j2, j3, j5, j8, j9, o0, o1, o2, o3, o5, o8, o9, oM, lL2, lH2, lM2, lD2, lL4, gL20, gL21, gH20, gH21, gM20, gM21, foldD]
  refine callL_of (t2) [(1000, 7)] true [5] [] ?_ ?_
  · refine CallOk.of ?_ ?_ rfl ?_ rfl rfl rfl rfl ?_ rfl ?_ rfl
    all_goals simp [ML, args1, arg1, args0, lents1, lent1, lent0, lents0, lentB, rowsM, body0, only, sg, injB, apartB, keysOf, cur, resS, ↓get_cons', ↓hget_cons', Value.oneCell', eq_self, and_self, ne_eq, vI, rK_nil, rK_len, rK_take, rM_len, rM_take, Int.toNat_natCast, Int.cast_ofNat_Int, Int.reduceToNat, Int.toNat_zero, cV, cR, j0, j1, j2, j3, j5, j8, j9, o0, o1, o2, o3, o5, o8, o9, oM, lL2, lH2, lM2, lD2, lL4, gL20, gL21, gH20, gH21, gM20, gM21, foldD, lL2, lH2, lM2, lD2, lL4, tL2, tL4, tD2, S.flat2, S.flat1, S.flat, Body.flat, c_flat]
  simp -implicitDefEqProofs only [RL0, RL1, RL2, RL3, RL4, RL5, RL6, RL7, RL8, RL9, chkW, ↓get_cons', ↓hget_cons', ↓hset_cons', St.gh, isNil, evalA, opTs, LOp.args, Nat.reduceBEq, renS, ren1, ren0, renB, only, sg, gmOf, wrN, buildCells, bsRows, Value.oneCell', setAt, eqCells, eqCell, vI, vB, vS, apartW, Nat.reduceEqDiff, Nat.reduceAdd, Nat.reduceSub, Nat.reduceMul, Nat.reduceLT, Nat.reduceLeDiff, Int.reduceEq, Int.reduceNe, Int.reduceLT, Int.reduceLE, reduceCtorEq, ↓reduceIte, ne_eq, eq_self, and_self, str_eq_iff, Int.toNat_natCast, Int.cast_ofNat_Int, Int.reduceToNat, Int.toNat_zero, cV, cR, j0, j1, j2, j3, j5, j8, j9, o0, o1, o2, o3, o5, o8, o9, oM, lL2, lH2, lM2, lD2, lL4, gL20, gL21, gH20, gH21, gM20, gM21, foldD]
  refine callL_of (t3) [(1000, 9)] true [5] [] ?_ ?_
  · refine CallOk.of ?_ ?_ rfl ?_ rfl rfl rfl rfl ?_ rfl ?_ rfl
    all_goals simp [ML, args1, arg1, args0, lents1, lent1, lent0, lents0, lentB, rowsM, body0, only, sg, injB, apartB, keysOf, cur, resS, ↓get_cons', ↓hget_cons', Value.oneCell', eq_self, and_self, ne_eq, vI, rK_nil, rK_len, rK_take, rM_len, rM_take, Int.toNat_natCast, Int.cast_ofNat_Int, Int.reduceToNat, Int.toNat_zero, cV, cR, j0, j1, j2, j3, j5, j8, j9, o0, o1, o2, o3, o5, o8, o9, oM, lL2, lH2, lM2, lD2, lL4, gL20, gL21, gH20, gH21, gM20, gM21, foldD, lL2, lH2, lM2, lD2, lL4, tL2, tL4, tD2, S.flat2, S.flat1, S.flat, Body.flat, c_flat]
  simp -implicitDefEqProofs only [RL0, RL1, RL2, RL3, RL4, RL5, RL6, RL7, RL8, RL9, chkW, ↓get_cons', ↓hget_cons', ↓hset_cons', St.gh, isNil, evalA, opTs, LOp.args, Nat.reduceBEq, renS, ren1, ren0, renB, only, sg, gmOf, wrN, buildCells, bsRows, Value.oneCell', setAt, eqCells, eqCell, vI, vB, vS, apartW, Nat.reduceEqDiff, Nat.reduceAdd, Nat.reduceSub, Nat.reduceMul, Nat.reduceLT, Nat.reduceLeDiff, Int.reduceEq, Int.reduceNe, Int.reduceLT, Int.reduceLE, reduceCtorEq, ↓reduceIte, ne_eq, eq_self, and_self, str_eq_iff, Int.toNat_natCast, Int.cast_ofNat_Int, Int.reduceToNat, Int.toNat_zero, cV, cR, j0, j1, j2, j3, j5, j8, j9, o0, o1, o2, o3, o5, o8, o9, oM, lL2, lH2, lM2, lD2, lL4, gL20, gL21, gH20, gH21, gM20, gM21, foldD]
  refine callL_of (t4) [] true [5] [] ?_ ?_
  · refine CallOk.of ?_ ?_ rfl ?_ rfl rfl rfl rfl ?_ rfl ?_ rfl
    all_goals simp [ML, args1, arg1, args0, lents1, lent1, lent0, lents0, lentB, rowsM, body0, only, sg, injB, apartB, keysOf, cur, resS, ↓get_cons', ↓hget_cons', Value.oneCell', eq_self, and_self, ne_eq, vI, rK_nil, rK_len, rK_take, rM_len, rM_take, Int.toNat_natCast, Int.cast_ofNat_Int, Int.reduceToNat, Int.toNat_zero, cV, cR, j0, j1, j2, j3, j5, j8, j9, o0, o1, o2, o3, o5, o8, o9, oM, lL2, lH2, lM2, lD2, lL4, gL20, gL21, gH20, gH21, gM20, gM21, foldD, lL2, lH2, lM2, lD2, lL4, tL2, tL4, tD2, S.flat2, S.flat1, S.flat, Body.flat, c_flat]
  simp -implicitDefEqProofs only [RL0, RL1, RL2, RL3, RL4, RL5, RL6, RL7, RL8, RL9, chkW, ↓get_cons', ↓hget_cons', ↓hset_cons', St.gh, isNil, evalA, opTs, LOp.args, Nat.reduceBEq, renS, ren1, ren0, renB, only, sg, gmOf, wrN, buildCells, bsRows, Value.oneCell', setAt, eqCells, eqCell, vI, vB, vS, apartW, Nat.reduceEqDiff, Nat.reduceAdd, Nat.reduceSub, Nat.reduceMul, Nat.reduceLT, Nat.reduceLeDiff, Int.reduceEq, Int.reduceNe, Int.reduceLT, Int.reduceLE, reduceCtorEq, ↓reduceIte, ne_eq, eq_self, and_self, str_eq_iff, Int.toNat_natCast, Int.cast_ofNat_Int, Int.reduceToNat, Int.toNat_zero, cV, cR, j0, j1, j2, j3, j5, j8, j9, o0, o1, o2, o3, o5, o8, o9, oM, lL2, lH2, lM2, lD2, lL4, gL20, gL21, gH20, gH21, gM20, gM21, foldD]
  refine callL_of (t5) [] true [5] [] ?_ ?_
  · refine CallOk.of ?_ ?_ rfl ?_ rfl rfl rfl rfl ?_ rfl ?_ rfl
    all_goals simp [ML, args1, arg1, args0, lents1, lent1, lent0, lents0, lentB, rowsM, body0, only, sg, injB, apartB, keysOf, cur, resS, ↓get_cons', ↓hget_cons', Value.oneCell', eq_self, and_self, ne_eq, vI, rK_nil, rK_len, rK_take, rM_len, rM_take, Int.toNat_natCast, Int.cast_ofNat_Int, Int.reduceToNat, Int.toNat_zero, cV, cR, j0, j1, j2, j3, j5, j8, j9, o0, o1, o2, o3, o5, o8, o9, oM, lL2, lH2, lM2, lD2, lL4, gL20, gL21, gH20, gH21, gM20, gM21, foldD, lL2, lH2, lM2, lD2, lL4, tL2, tL4, tD2, S.flat2, S.flat1, S.flat, Body.flat, c_flat]
  simp -implicitDefEqProofs only [RL0, RL1, RL2, RL3, RL4, RL5, RL6, RL7, RL8, RL9, chkW, ↓get_cons', ↓hget_cons', ↓hset_cons', St.gh, isNil, evalA, opTs, LOp.args, Nat.reduceBEq, renS, ren1, ren0, renB, only, sg, gmOf, wrN, buildCells, bsRows, Value.oneCell', setAt, eqCells, eqCell, vI, vB, vS, apartW, Nat.reduceEqDiff, Nat.reduceAdd, Nat.reduceSub, Nat.reduceMul, Nat.reduceLT, Nat.reduceLeDiff, Int.reduceEq, Int.reduceNe, Int.reduceLT, Int.reduceLE, reduceCtorEq, ↓reduceIte, ne_eq, eq_self, and_self, str_eq_iff, Int.toNat_natCast, Int.cast_ofNat_Int, Int.reduceToNat, Int.toNat_zero, cV, cR, j0, j1, j2, j3, j5, j8, j9, o0, o1, o2, o3, o5, o8, o9, oM, lL2, lH2, lM2, lD2, lL4, gL20, gL21, gH20, gH21, gM20, gM21, foldD]
  refine callL_of (t6) [] true [5] [] ?_ ?_
  · refine CallOk.of ?_ ?_ rfl ?_ rfl rfl rfl rfl ?_ rfl ?_ rfl
    all_goals simp [ML, args1, arg1, args0, lents1, lent1, lent0, lents0, lentB, rowsM, body0, only, sg, injB, apartB, keysOf, cur, resS, ↓get_cons', ↓hget_cons', Value.oneCell', eq_self, and_self, ne_eq, vI, rK_nil, rK_len, rK_take, rM_len, rM_take, Int.toNat_natCast, Int.cast_ofNat_Int, Int.reduceToNat, Int.toNat_zero, cV, cR, j0, j1, j2, j3, j5, j8, j9, o0, o1, o2, o3, o5, o8, o9, oM, lL2, lH2, lM2, lD2, lL4, gL20, gL21, gH20, gH21, gM20, gM21, foldD, lL2, lH2, lM2, lD2, lL4, tL2, tL4, tD2, S.flat2, S.flat1, S.flat, Body.flat, c_flat]
  simp -implicitDefEqProofs only [RL0, RL1, RL2, RL3, RL4, RL5, RL6, RL7, RL8, RL9, chkW, ↓get_cons', ↓hget_cons', ↓hset_cons', St.gh, isNil, evalA, opTs, LOp.args, Nat.reduceBEq, renS, ren1, ren0, renB, only, sg, gmOf, wrN, buildCells, bsRows, Value.oneCell', setAt, eqCells, eqCell, vI, vB, vS, apartW, Nat.reduceEqDiff, Nat.reduceAdd, Nat.reduceSub, Nat.reduceMul, Nat.reduceLT, Nat.reduceLeDiff, Int.reduceEq, Int.reduceNe, Int.reduceLT, Int.reduceLE, reduceCtorEq, ↓reduceIte, ne_eq, eq_self, and_self, str_eq_iff, Int.toNat_natCast, Int.cast_ofNat_Int, Int.reduceToNat, Int.toNat_zero, cV, cR, j0, j1, j2, j3, j5, j8, j9, o0, o1, o2, o3, o5, o8, o9, oM, lL2, lH2, lM2, lD2, lL4, gL20, gL21, gH20, gH21, gM20, gM21, foldD]
  refine callL_of (t7) [] true [5] [] ?_ ?_
  · refine CallOk.of ?_ ?_ rfl ?_ rfl rfl rfl rfl ?_ rfl ?_ rfl
    all_goals simp [ML, args1, arg1, args0, lents1, lent1, lent0, lents0, lentB, rowsM, body0, only, sg, injB, apartB, keysOf, cur, resS, ↓get_cons', ↓hget_cons', Value.oneCell', eq_self, and_self, ne_eq, vI, rK_nil, rK_len, rK_take, rM_len, rM_take, Int.toNat_natCast, Int.cast_ofNat_Int, Int.reduceToNat, Int.toNat_zero, cV, cR, j0, j1, j2, j3, j5, j8, j9, o0, o1, o2, o3, o5, o8, o9, oM, lL2, lH2, lM2, lD2, lL4, gL20, gL21, gH20, gH21, gM20, gM21, foldD, lL2, lH2, lM2, lD2, lL4, tL2, tL4, tD2, S.flat2, S.flat1, S.flat, Body.flat, c_flat]
  simp -implicitDefEqProofs only [RL0, RL1, RL2, RL3, RL4, RL5, RL6, RL7, RL8, RL9, chkW, ↓get_cons', ↓hget_cons', ↓hset_cons', St.gh, isNil, evalA, opTs, LOp.args, Nat.reduceBEq, renS, ren1, ren0, renB, only, sg, gmOf, wrN, buildCells, bsRows, Value.oneCell', setAt, eqCells, eqCell, vI, vB, vS, apartW, Nat.reduceEqDiff, Nat.reduceAdd, Nat.reduceSub, Nat.reduceMul, Nat.reduceLT, Nat.reduceLeDiff, Int.reduceEq, Int.reduceNe, Int.reduceLT, Int.reduceLE, reduceCtorEq, ↓reduceIte, ne_eq, eq_self, and_self, str_eq_iff, Int.toNat_natCast, Int.cast_ofNat_Int, Int.reduceToNat, Int.toNat_zero, cV, cR, j0, j1, j2, j3, j5, j8, j9, o0, o1, o2, o3, o5, o8, o9, oM, lL2, lH2, lM2, lD2, lL4, gL20, gL21, gH20, gH21, gM20, gM21, foldD]
  refine callL_of (t8) [] true [78] [] ?_ ?_
  · refine CallOk.of ?_ ?_ rfl ?_ rfl rfl rfl rfl ?_ rfl ?_ rfl
    all_goals simp [ML, args1, arg1, args0, lents1, lent1, lent0, lents0, lentB, rowsM, body0, only, sg, injB, apartB, keysOf, cur, resS, ↓get_cons', ↓hget_cons', Value.oneCell', eq_self, and_self, ne_eq, vI, rK_nil, rK_len, rK_take, rM_len, rM_take, Int.toNat_natCast, Int.cast_ofNat_Int, Int.reduceToNat, Int.toNat_zero, cV, cR, j0, j1, j2, j3, j5, j8, j9, o0, o1, o2, o3, o5, o8, o9, oM, lL2, lH2, lM2, lD2, lL4, gL20, gL21, gH20, gH21, gM20, gM21, foldD, lL2, lH2, lM2, lD2, lL4, tL2, tL4, tD2, S.flat2, S.flat1, S.flat, Body.flat, c_flat]
  simp -implicitDefEqProofs only [RL0, RL1, RL2, RL3, RL4, RL5, RL6, RL7, RL8, RL9, chkW, ↓get_cons', ↓hget_cons', ↓hset_cons', St.gh, isNil, evalA, opTs, LOp.args, Nat.reduceBEq, renS, ren1, ren0, renB, only, sg, gmOf, wrN, buildCells, bsRows, Value.oneCell', setAt, eqCells, eqCell, vI, vB, vS, apartW, Nat.reduceEqDiff, Nat.reduceAdd, Nat.reduceSub, Nat.reduceMul, Nat.reduceLT, Nat.reduceLeDiff, Int.reduceEq, Int.reduceNe, Int.reduceLT, Int.reduceLE, reduceCtorEq, ↓reduceIte, ne_eq, eq_self, and_self, str_eq_iff, Int.toNat_natCast, Int.cast_ofNat_Int, Int.reduceToNat, Int.toNat_zero, cV, cR, j0, j1, j2, j3, j5, j8, j9, o0, o1, o2, o3, o5, o8, o9, oM, lL2, lH2, lM2, lD2, lL4, gL20, gL21, gH20, gH21, gM20, gM21, foldD]
  refine callL_of (t9) [] false [] [] ?_ ?_
  · refine CallOk.of ?_ ?_ rfl ?_ rfl rfl rfl rfl ?_ rfl ?_ rfl
    all_goals simp [ML, args1, arg1, args0, lents1, lent1, lent0, lents0, lentB, rowsM, body0, only, sg, injB, apartB, keysOf, cur, resS, ↓get_cons', ↓hget_cons', Value.oneCell', eq_self, and_self, ne_eq, vI, rK_nil, rK_len, rK_take, rM_len, rM_take, Int.toNat_natCast, Int.cast_ofNat_Int, Int.reduceToNat, Int.toNat_zero, cV, cR, j0, j1, j2, j3, j5, j8, j9, o0, o1, o2, o3, o5, o8, o9, oM, lL2, lH2, lM2, lD2, lL4, gL20, gL21, gH20, gH21, gM20, gM21, foldD, lL2, lH2, lM2, lD2, lL4, tL2, tL4, tD2, S.flat2, S.flat1, S.flat, Body.flat, c_flat]
  simp -implicitDefEqProofs only [RL0, RL1, RL2, RL3, RL4, RL5, RL6, RL7, RL8, RL9, chkW, ↓get_cons', ↓hget_cons', ↓hset_cons', St.gh, isNil, evalA, opTs, LOp.args, Nat.reduceBEq, renS, ren1, ren0, renB, only, sg, gmOf, wrN, buildCells, bsRows, Value.oneCell', setAt, eqCells, eqCell, vI, vB, vS, apartW, Nat.reduceEqDiff, Nat.reduceAdd, Nat.reduceSub, Nat.reduceMul, Nat.reduceLT, Nat.reduceLeDiff, Int.reduceEq, Int.reduceNe, Int.reduceLT, Int.reduceLE, reduceCtorEq, ↓reduceIte, ne_eq, eq_self, and_self, str_eq_iff, Int.toNat_natCast, Int.cast_ofNat_Int, Int.reduceToNat, Int.toNat_zero, cV, cR, j0, j1, j2, j3, j5, j8, j9, o0, o1, o2, o3, o5, o8, o9, oM, lL2, lH2, lM2, lD2, lL4, gL20, gL21, gH20, gH21, gM20, gM21, foldD]
  refine callL_of (t10) [] false [] [] ?_ ?_
  · refine CallOk.of ?_ ?_ rfl ?_ rfl rfl rfl rfl ?_ rfl ?_ rfl
    all_goals simp [ML, args1, arg1, args0, lents1, lent1, lent0, lents0, lentB, rowsM, body0, only, sg, injB, apartB, keysOf, cur, resS, ↓get_cons', ↓hget_cons', Value.oneCell', eq_self, and_self, ne_eq, vI, rK_nil, rK_len, rK_take, rM_len, rM_take, Int.toNat_natCast, Int.cast_ofNat_Int, Int.reduceToNat, Int.toNat_zero, cV, cR, j0, j1, j2, j3, j5, j8, j9, o0, o1, o2, o3, o5, o8, o9, oM, lL2, lH2, lM2, lD2, lL4, gL20, gL21, gH20, gH21, gM20, gM21, foldD, lL2, lH2, lM2, lD2, lL4, tL2, tL4, tD2, S.flat2, S.flat1, S.flat, Body.flat, c_flat]
  simp -implicitDefEqProofs only [RL0, RL1, RL2, RL3, RL4, RL5, RL6, RL7, RL8, RL9, chkW, ↓get_cons', ↓hget_cons', ↓hset_cons', St.gh, isNil, evalA, opTs, LOp.args, Nat.reduceBEq, renS, ren1, ren0, renB, only, sg, gmOf, wrN, buildCells, bsRows, Value.oneCell', setAt, eqCells, eqCell, vI, vB, vS, apartW, Nat.reduceEqDiff, Nat.reduceAdd, Nat.reduceSub, Nat.reduceMul, Nat.reduceLT, Nat.reduceLeDiff, Int.reduceEq, Int.reduceNe, Int.reduceLT, Int.reduceLE, reduceCtorEq, ↓reduceIte, ne_eq, eq_self, and_self, str_eq_iff, Int.toNat_natCast, Int.cast_ofNat_Int, Int.reduceToNat, Int.toNat_zero, cV, cR, j0, j1, j2, j3, j5, j8, j9, o0, o1, o2, o3, o5, o8, o9, oM, lL2, lH2, lM2, lD2, lL4, gL20, gL21, gH20, gH21, gM20, gM21, foldD]
  refine callL_of (t11) [] false [] [] ?_ ?_
  · refine CallOk.of ?_ ?_ rfl ?_ rfl rfl rfl rfl ?_ rfl ?_ rfl
    all_goals simp [ML, args1, arg1, args0, lents1, lent1, lent0, lents0, lentB, rowsM, body0, only, sg, injB, apartB, keysOf, cur, resS, ↓get_cons', ↓hget_cons', Value.oneCell', eq_self, and_self, ne_eq, vI, rK_nil, rK_len, rK_take, rM_len, rM_take, Int.toNat_natCast, Int.cast_ofNat_Int, Int.reduceToNat, Int.toNat_zero, cV, cR, j0, j1, j2, j3, j5, j8, j9, o0, o1, o2, o3, o5, o8, o9, oM, lL2, lH2, lM2, lD2, lL4, gL20, gL21, gH20, gH21, gM20, gM21, foldD, lL2, lH2, lM2, lD2, lL4, tL2, tL4, tD2, S.flat2, S.flat1, S.flat, Body.flat, c_flat]
  simp -implicitDefEqProofs only [RL0, RL1, RL2, RL3, RL4, RL5, RL6, RL7, RL8, RL9, chkW, ↓get_cons', ↓hget_cons', ↓hset_cons', St.gh, isNil, evalA, opTs, LOp.args, Nat.reduceBEq, renS, ren1, ren0, renB, only, sg, gmOf, wrN, buildCells, bsRows, Value.oneCell', setAt, eqCells, eqCell, vI, vB, vS, apartW, Nat.reduceEqDiff, Nat.reduceAdd, Nat.reduceSub, Nat.reduceMul, Nat.reduceLT, Nat.reduceLeDiff, Int.reduceEq, Int.reduceNe, Int.reduceLT, Int.reduceLE, reduceCtorEq, ↓reduceIte, ne_eq, eq_self, and_self, str_eq_iff, Int.toNat_natCast, Int.cast_ofNat_Int, Int.reduceToNat, Int.toNat_zero, cV, cR, j0, j1, j2, j3, j5, j8, j9, o0, o1, o2, o3, o5, o8, o9, oM, lL2, lH2, lM2, lD2, lL4, gL20, gL21, gH20, gH21, gM20, gM21, foldD]
  refine RetOk.of [] [] ?_ ?_ rfl ?_ rfl rfl ?_
  all_goals simp [ML, args1, arg1, args0, lents1, lent1, lent0, lents0, lentB, rowsM, body0, only, sg, injB, apartB, keysOf, cur, resS, ↓get_cons', ↓hget_cons', Value.oneCell', eq_self, and_self, ne_eq, vI, rK_nil, Int.toNat_natCast, Int.cast_ofNat_Int, Int.reduceToNat, Int.toNat_zero, cV, cR]
end Go.Proofs.Ex
