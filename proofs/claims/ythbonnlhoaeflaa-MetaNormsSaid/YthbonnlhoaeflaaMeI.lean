import Derived.Test.YthbonnlhoaeflaaMeH
set_option linter.unusedVariables false
set_option linter.unusedSimpArgs false
-- DEFS Int.toNat_natCast, attrS, attrR, aceS, aceR, metaS, metaC, Int.cast_ofNat_Int, Int.reduceToNat, Int.toNat_zero
namespace Go.Proofs.Me
open Go.RowKit Go.Lib Go.Eng Go.Proofs Go.IntWalk
set_option maxRecDepth 100000
set_option maxHeartbeats 2000000
theorem rM_flat (l : List At) : (∀ r ∈ rM attrR l, ∀ d ∈ r, ∃ x, d = D.v x) = True := by
  refine eq_true fun r hr d hd => ?_
  obtain ⟨t, _, rfl⟩ := List.mem_map.1 hr
  simp only [attrR, List.mem_cons, List.not_mem_nil, or_false] at hd
  rcases hd with rfl | rfl <;> exact ⟨_, rfl⟩
theorem rA_flat (l : List Ac) : (∀ r ∈ rM aceR l, ∀ d ∈ r, ∃ x, d = D.v x) = True := by
  refine eq_true fun r hr d hd => ?_
  obtain ⟨t, _, rfl⟩ := List.mem_map.1 hr
  simp only [aceR, List.mem_cons, List.not_mem_nil, or_false] at hd
  rcases hd with rfl | rfl | rfl <;> exact ⟨_, rfl⟩
theorem told_spec20 : Eng.Spec Try.prog 20 [] [] [] [] (.d (.v (.bool true))) := by
  refine told_spec mixed f20_told f20_results f20_text rfl (by simp) rfl ?_
  simp only [initS, List.length_cons, List.length_nil, List.range, List.range.loop, List.getD_cons_zero, List.getD_cons_succ, List.cons_append, List.nil_append, Int.toNat_natCast, attrS, attrR, aceS, aceR, metaS, metaC, Int.cast_ofNat_Int, Int.reduceToNat, Int.toNat_zero]
  simp -implicitDefEqProofs only [RL0, RL1, RL2, RL3, RL4, RL5, RL6, RL7, RL8, chkW, ↓get_cons', ↓hget_cons', ↓hset_cons', St.gh, isNil, evalA, opTs, LOp.args, Nat.reduceBEq, renS, ren1, ren0, renB, only, sg, gmOf, wrN, buildCells, bsRows, Value.oneCell', setAt, eqCells, eqCell, vI, vB, vS, apartW, Nat.reduceEqDiff, Nat.reduceAdd, Nat.reduceSub, Nat.reduceMul, Nat.reduceLT, Nat.reduceLeDiff, Int.reduceEq, Int.reduceNe, Int.reduceLT, Int.reduceLE, reduceCtorEq, ↓reduceIte, ne_eq, eq_self, and_self, str_eq_iff]
  have h1 := norm_spec [(⟨#[98]⟩, ⟨#[]⟩), (⟨#[97]⟩, ⟨#[49]⟩)] (by decide)
  rw [show norm [(⟨#[98]⟩, ⟨#[]⟩), (⟨#[97]⟩, ⟨#[49]⟩)] = ([(⟨#[97]⟩, ⟨#[49]⟩), (⟨#[98]⟩, ⟨#[]⟩)], 0) by decide +kernel] at h1
  refine callL_of (h1) [(1000, 13)] false [12] [12] ?_ ?_
  · refine CallOk.of ?_ ?_ rfl ?_ rfl rfl rfl rfl ?_ rfl ?_ rfl
    all_goals simp [ML, args1, arg1, args0, lents1, lent1, lent0, lents0, lentB, rowsM, body0, only, sg, injB, apartB, keysOf, cur, resS, ↓get_cons', ↓hget_cons', Value.oneCell', eq_self, and_self, ne_eq, vI, rK_nil, rK_len, rK_take, rM_len, rM_take, Int.toNat_natCast, attrS, attrR, aceS, aceR, metaS, metaC, Int.cast_ofNat_Int, Int.reduceToNat, Int.toNat_zero, rM, List.map]
  simp -implicitDefEqProofs only [RL0, RL1, RL2, RL3, RL4, RL5, RL6, RL7, RL8, chkW, ↓get_cons', ↓hget_cons', ↓hset_cons', St.gh, isNil, evalA, opTs, LOp.args, Nat.reduceBEq, renS, ren1, ren0, renB, only, sg, gmOf, wrN, buildCells, bsRows, Value.oneCell', setAt, eqCells, eqCell, vI, vB, vS, apartW, Nat.reduceEqDiff, Nat.reduceAdd, Nat.reduceSub, Nat.reduceMul, Nat.reduceLT, Nat.reduceLeDiff, Int.reduceEq, Int.reduceNe, Int.reduceLT, Int.reduceLE, reduceCtorEq, ↓reduceIte, ne_eq, eq_self, and_self, str_eq_iff, Int.toNat_natCast, attrS, attrR, aceS, aceR, metaS, metaC, Int.cast_ofNat_Int, Int.reduceToNat, Int.toNat_zero]
  have h2 := norm_spec [(⟨#[97]⟩, ⟨#[]⟩), (⟨#[97]⟩, ⟨#[]⟩)] (by decide)
  rw [show norm [(⟨#[97]⟩, ⟨#[]⟩), (⟨#[97]⟩, ⟨#[]⟩)] = ([], 6) by decide +kernel] at h2
  refine callL_of (h2) [(1000, 20)] false [19] [19] ?_ ?_
  · refine CallOk.of ?_ ?_ rfl ?_ rfl rfl rfl rfl ?_ rfl ?_ rfl
    all_goals simp [ML, args1, arg1, args0, lents1, lent1, lent0, lents0, lentB, rowsM, body0, only, sg, injB, apartB, keysOf, cur, resS, ↓get_cons', ↓hget_cons', Value.oneCell', eq_self, and_self, ne_eq, vI, rK_nil, rK_len, rK_take, rM_len, rM_take, Int.toNat_natCast, attrS, attrR, aceS, aceR, metaS, metaC, Int.cast_ofNat_Int, Int.reduceToNat, Int.toNat_zero, rM, List.map]
  simp -implicitDefEqProofs only [RL0, RL1, RL2, RL3, RL4, RL5, RL6, RL7, RL8, chkW, ↓get_cons', ↓hget_cons', ↓hset_cons', St.gh, isNil, evalA, opTs, LOp.args, Nat.reduceBEq, renS, ren1, ren0, renB, only, sg, gmOf, wrN, buildCells, bsRows, Value.oneCell', setAt, eqCells, eqCell, vI, vB, vS, apartW, Nat.reduceEqDiff, Nat.reduceAdd, Nat.reduceSub, Nat.reduceMul, Nat.reduceLT, Nat.reduceLeDiff, Int.reduceEq, Int.reduceNe, Int.reduceLT, Int.reduceLE, reduceCtorEq, ↓reduceIte, ne_eq, eq_self, and_self, str_eq_iff, Int.toNat_natCast, attrS, attrR, aceS, aceR, metaS, metaC, Int.cast_ofNat_Int, Int.reduceToNat, Int.toNat_zero]
  have h3 := norm_spec [(⟨#[]⟩, ⟨#[]⟩)] (by decide)
  rw [show norm [(⟨#[]⟩, ⟨#[]⟩)] = ([], 1) by decide +kernel] at h3
  refine callL_of (h3) [(1000, 26)] false [25] [25] ?_ ?_
  · refine CallOk.of ?_ ?_ rfl ?_ rfl rfl rfl rfl ?_ rfl ?_ rfl
    all_goals simp [ML, args1, arg1, args0, lents1, lent1, lent0, lents0, lentB, rowsM, body0, only, sg, injB, apartB, keysOf, cur, resS, ↓get_cons', ↓hget_cons', Value.oneCell', eq_self, and_self, ne_eq, vI, rK_nil, rK_len, rK_take, rM_len, rM_take, Int.toNat_natCast, attrS, attrR, aceS, aceR, metaS, metaC, Int.cast_ofNat_Int, Int.reduceToNat, Int.toNat_zero, rM, List.map]
  simp -implicitDefEqProofs only [RL0, RL1, RL2, RL3, RL4, RL5, RL6, RL7, RL8, chkW, ↓get_cons', ↓hget_cons', ↓hset_cons', St.gh, isNil, evalA, opTs, LOp.args, Nat.reduceBEq, renS, ren1, ren0, renB, only, sg, gmOf, wrN, buildCells, bsRows, Value.oneCell', setAt, eqCells, eqCell, vI, vB, vS, apartW, Nat.reduceEqDiff, Nat.reduceAdd, Nat.reduceSub, Nat.reduceMul, Nat.reduceLT, Nat.reduceLeDiff, Int.reduceEq, Int.reduceNe, Int.reduceLT, Int.reduceLE, reduceCtorEq, ↓reduceIte, ne_eq, eq_self, and_self, str_eq_iff, Int.toNat_natCast, attrS, attrR, aceS, aceR, metaS, metaC, Int.cast_ofNat_Int, Int.reduceToNat, Int.toNat_zero]
  have m1 := may_spec ⟨420, 0, 0, 0, [(⟨#[97]⟩, ⟨#[49]⟩), (⟨#[98]⟩, ⟨#[]⟩)], []⟩ (by constructor <;> decide)
  rw [show decide (mayM ⟨420, 0, 0, 0, [(⟨#[97]⟩, ⟨#[49]⟩), (⟨#[98]⟩, ⟨#[]⟩)], []⟩) = true by decide +kernel] at m1
  refine callLT_of (m1) [] true [13] [] ?_ ?_
  · refine CallOk.of ?_ ?_ rfl ?_ rfl rfl rfl rfl ?_ rfl ?_ rfl
    all_goals simp [ML, args1, arg1, args0, lents1, lent1, lent0, lents0, lentB, rowsM, body0, only, sg, injB, apartB, keysOf, cur, resS, ↓get_cons', ↓hget_cons', Value.oneCell', eq_self, and_self, ne_eq, vI, rK_nil, rK_len, rK_take, rM_len, rM_take, Int.toNat_natCast, attrS, attrR, aceS, aceR, metaS, metaC, Int.cast_ofNat_Int, Int.reduceToNat, Int.toNat_zero, S.flat2, S.flat1, S.flat, Body.flat, rM_flat, rM, List.map]
  simp -implicitDefEqProofs only [RL0, RL1, RL2, RL3, RL4, RL5, RL6, RL7, RL8, chkW, ↓get_cons', ↓hget_cons', ↓hset_cons', St.gh, isNil, evalA, opTs, LOp.args, Nat.reduceBEq, renS, ren1, ren0, renB, only, sg, gmOf, wrN, buildCells, bsRows, Value.oneCell', setAt, eqCells, eqCell, vI, vB, vS, apartW, Nat.reduceEqDiff, Nat.reduceAdd, Nat.reduceSub, Nat.reduceMul, Nat.reduceLT, Nat.reduceLeDiff, Int.reduceEq, Int.reduceNe, Int.reduceLT, Int.reduceLE, reduceCtorEq, ↓reduceIte, ne_eq, eq_self, and_self, str_eq_iff, Int.toNat_natCast, attrS, attrR, aceS, aceR, metaS, metaC, Int.cast_ofNat_Int, Int.reduceToNat, Int.toNat_zero, callT, cellT]
  have m2 := may_spec ⟨4096, 0, 0, 0, [], []⟩ (by constructor <;> decide)
  rw [show decide (mayM ⟨4096, 0, 0, 0, [], []⟩) = false by decide +kernel] at m2
  refine callLT_of (m2) [] false [] [] ?_ ?_
  · refine CallOk.of ?_ ?_ rfl ?_ rfl rfl rfl rfl ?_ rfl ?_ rfl
    all_goals simp [ML, args1, arg1, args0, lents1, lent1, lent0, lents0, lentB, rowsM, body0, only, sg, injB, apartB, keysOf, cur, resS, ↓get_cons', ↓hget_cons', Value.oneCell', eq_self, and_self, ne_eq, vI, rK_nil, rK_len, rK_take, rM_len, rM_take, Int.toNat_natCast, attrS, attrR, aceS, aceR, metaS, metaC, Int.cast_ofNat_Int, Int.reduceToNat, Int.toNat_zero, rM, List.map]
  simp -implicitDefEqProofs only [RL0, RL1, RL2, RL3, RL4, RL5, RL6, RL7, RL8, chkW, ↓get_cons', ↓hget_cons', ↓hset_cons', St.gh, isNil, evalA, opTs, LOp.args, Nat.reduceBEq, renS, ren1, ren0, renB, only, sg, gmOf, wrN, buildCells, bsRows, Value.oneCell', setAt, eqCells, eqCell, vI, vB, vS, apartW, Nat.reduceEqDiff, Nat.reduceAdd, Nat.reduceSub, Nat.reduceMul, Nat.reduceLT, Nat.reduceLeDiff, Int.reduceEq, Int.reduceNe, Int.reduceLT, Int.reduceLE, reduceCtorEq, ↓reduceIte, ne_eq, eq_self, and_self, str_eq_iff, Int.toNat_natCast, attrS, attrR, aceS, aceR, metaS, metaC, Int.cast_ofNat_Int, Int.reduceToNat, Int.toNat_zero, callT, cellT]
  have m3 := may_spec ⟨0, 0, 0, -1, [], []⟩ (by constructor <;> decide)
  rw [show decide (mayM ⟨0, 0, 0, -1, [], []⟩) = false by decide +kernel] at m3
  refine callLT_of (m3) [] false [] [] ?_ ?_
  · refine CallOk.of ?_ ?_ rfl ?_ rfl rfl rfl rfl ?_ rfl ?_ rfl
    all_goals simp [ML, args1, arg1, args0, lents1, lent1, lent0, lents0, lentB, rowsM, body0, only, sg, injB, apartB, keysOf, cur, resS, ↓get_cons', ↓hget_cons', Value.oneCell', eq_self, and_self, ne_eq, vI, rK_nil, rK_len, rK_take, rM_len, rM_take, Int.toNat_natCast, attrS, attrR, aceS, aceR, metaS, metaC, Int.cast_ofNat_Int, Int.reduceToNat, Int.toNat_zero, rM, List.map]
  simp -implicitDefEqProofs only [RL0, RL1, RL2, RL3, RL4, RL5, RL6, RL7, RL8, chkW, ↓get_cons', ↓hget_cons', ↓hset_cons', St.gh, isNil, evalA, opTs, LOp.args, Nat.reduceBEq, renS, ren1, ren0, renB, only, sg, gmOf, wrN, buildCells, bsRows, Value.oneCell', setAt, eqCells, eqCell, vI, vB, vS, apartW, Nat.reduceEqDiff, Nat.reduceAdd, Nat.reduceSub, Nat.reduceMul, Nat.reduceLT, Nat.reduceLeDiff, Int.reduceEq, Int.reduceNe, Int.reduceLT, Int.reduceLE, reduceCtorEq, ↓reduceIte, ne_eq, eq_self, and_self, str_eq_iff, Int.toNat_natCast, attrS, attrR, aceS, aceR, metaS, metaC, Int.cast_ofNat_Int, Int.reduceToNat, Int.toNat_zero, callT, cellT]
  have c1 := copy_spec ⟨420, 0, 0, 0, [(⟨#[97]⟩, ⟨#[49]⟩), (⟨#[98]⟩, ⟨#[]⟩)], []⟩ (by constructor <;> decide)
  refine callLT_of (c1) [(1000, 72), (1001, 172)] true [13] [] ?_ ?_
  · refine CallOk.of ?_ ?_ rfl ?_ rfl rfl rfl rfl ?_ rfl ?_ rfl
    all_goals simp [ML, args1, arg1, args0, lents1, lent1, lent0, lents0, lentB, rowsM, body0, only, sg, injB, apartB, keysOf, cur, resS, ↓get_cons', ↓hget_cons', Value.oneCell', eq_self, and_self, ne_eq, vI, rK_nil, rK_len, rK_take, rM_len, rM_take, Int.toNat_natCast, attrS, attrR, aceS, aceR, metaS, metaC, Int.cast_ofNat_Int, Int.reduceToNat, Int.toNat_zero, S.flat2, S.flat1, S.flat, Body.flat, rM_flat, rA_flat, rM, List.map]
  simp -implicitDefEqProofs only [RL0, RL1, RL2, RL3, RL4, RL5, RL6, RL7, RL8, chkW, ↓get_cons', ↓hget_cons', ↓hset_cons', St.gh, isNil, evalA, opTs, LOp.args, Nat.reduceBEq, renS, ren1, ren0, renB, only, sg, gmOf, wrN, buildCells, bsRows, Value.oneCell', setAt, eqCells, eqCell, vI, vB, vS, apartW, Nat.reduceEqDiff, Nat.reduceAdd, Nat.reduceSub, Nat.reduceMul, Nat.reduceLT, Nat.reduceLeDiff, Int.reduceEq, Int.reduceNe, Int.reduceLT, Int.reduceLE, reduceCtorEq, ↓reduceIte, ne_eq, eq_self, and_self, str_eq_iff, Int.toNat_natCast, attrS, attrR, aceS, aceR, metaS, metaC, Int.cast_ofNat_Int, Int.reduceToNat, Int.toNat_zero, callT, cellT]
  have s1 := samem_spec ⟨420, 0, 0, 0, [(⟨#[97]⟩, ⟨#[49]⟩), (⟨#[98]⟩, ⟨#[]⟩)], []⟩ ⟨420, 0, 0, 0, [(⟨#[97]⟩, ⟨#[49]⟩), (⟨#[98]⟩, ⟨#[]⟩)], []⟩ (by constructor <;> decide) (by constructor <;> decide)
  rw [show decide (diff ⟨420, 0, 0, 0, [(⟨#[97]⟩, ⟨#[49]⟩), (⟨#[98]⟩, ⟨#[]⟩)], []⟩ ⟨420, 0, 0, 0, [(⟨#[97]⟩, ⟨#[49]⟩), (⟨#[98]⟩, ⟨#[]⟩)], []⟩ = ⟨#[]⟩) = true by decide +kernel] at s1
  refine callLT_of (s1) [] true [13, 72, 172] [] ?_ ?_
  · refine CallOk.of ?_ ?_ rfl ?_ rfl rfl rfl rfl ?_ rfl ?_ rfl
    all_goals simp [ML, args1, arg1, args0, lents1, lent1, lent0, lents0, lentB, rowsM, body0, only, sg, injB, apartB, keysOf, cur, resS, ↓get_cons', ↓hget_cons', Value.oneCell', eq_self, and_self, ne_eq, vI, rK_nil, rK_len, rK_take, rM_len, rM_take, Int.toNat_natCast, attrS, attrR, aceS, aceR, metaS, metaC, Int.cast_ofNat_Int, Int.reduceToNat, Int.toNat_zero, S.flat2, S.flat1, S.flat, Body.flat, rM_flat, rA_flat, rM, List.map]
  simp -implicitDefEqProofs only [RL0, RL1, RL2, RL3, RL4, RL5, RL6, RL7, RL8, chkW, ↓get_cons', ↓hget_cons', ↓hset_cons', St.gh, isNil, evalA, opTs, LOp.args, Nat.reduceBEq, renS, ren1, ren0, renB, only, sg, gmOf, wrN, buildCells, bsRows, Value.oneCell', setAt, eqCells, eqCell, vI, vB, vS, apartW, Nat.reduceEqDiff, Nat.reduceAdd, Nat.reduceSub, Nat.reduceMul, Nat.reduceLT, Nat.reduceLeDiff, Int.reduceEq, Int.reduceNe, Int.reduceLT, Int.reduceLE, reduceCtorEq, ↓reduceIte, ne_eq, eq_self, and_self, str_eq_iff, Int.toNat_natCast, attrS, attrR, aceS, aceR, metaS, metaC, Int.cast_ofNat_Int, Int.reduceToNat, Int.toNat_zero, callT, cellT]
  have s2 := samem_spec ⟨420, 0, 0, 0, [(⟨#[97]⟩, ⟨#[49]⟩), (⟨#[98]⟩, ⟨#[]⟩)], []⟩ ⟨420, 0, 0, 5, [(⟨#[97]⟩, ⟨#[49]⟩), (⟨#[98]⟩, ⟨#[]⟩)], []⟩ (by constructor <;> decide) (by constructor <;> decide)
  rw [show decide (diff ⟨420, 0, 0, 0, [(⟨#[97]⟩, ⟨#[49]⟩), (⟨#[98]⟩, ⟨#[]⟩)], []⟩ ⟨420, 0, 0, 5, [(⟨#[97]⟩, ⟨#[49]⟩), (⟨#[98]⟩, ⟨#[]⟩)], []⟩ = ⟨#[]⟩) = false by decide +kernel] at s2
  refine callLT_of (s2) [] true [13] [] ?_ ?_
  · refine CallOk.of ?_ ?_ rfl ?_ rfl rfl rfl rfl ?_ rfl ?_ rfl
    all_goals simp [ML, args1, arg1, args0, lents1, lent1, lent0, lents0, lentB, rowsM, body0, only, sg, injB, apartB, keysOf, cur, resS, ↓get_cons', ↓hget_cons', Value.oneCell', eq_self, and_self, ne_eq, vI, rK_nil, rK_len, rK_take, rM_len, rM_take, Int.toNat_natCast, attrS, attrR, aceS, aceR, metaS, metaC, Int.cast_ofNat_Int, Int.reduceToNat, Int.toNat_zero, S.flat2, S.flat1, S.flat, Body.flat, rM_flat, rA_flat, rM, List.map]
  simp -implicitDefEqProofs only [RL0, RL1, RL2, RL3, RL4, RL5, RL6, RL7, RL8, chkW, ↓get_cons', ↓hget_cons', ↓hset_cons', St.gh, isNil, evalA, opTs, LOp.args, Nat.reduceBEq, renS, ren1, ren0, renB, only, sg, gmOf, wrN, buildCells, bsRows, Value.oneCell', setAt, eqCells, eqCell, vI, vB, vS, apartW, Nat.reduceEqDiff, Nat.reduceAdd, Nat.reduceSub, Nat.reduceMul, Nat.reduceLT, Nat.reduceLeDiff, Int.reduceEq, Int.reduceNe, Int.reduceLT, Int.reduceLE, reduceCtorEq, ↓reduceIte, ne_eq, eq_self, and_self, str_eq_iff, Int.toNat_natCast, attrS, attrR, aceS, aceR, metaS, metaC, Int.cast_ofNat_Int, Int.reduceToNat, Int.toNat_zero, callT, cellT]
  have d1 := diff_spec ⟨420, 0, 0, 0, [(⟨#[97]⟩, ⟨#[49]⟩), (⟨#[98]⟩, ⟨#[]⟩)], []⟩ ⟨420, 0, 0, 5, [(⟨#[97]⟩, ⟨#[49]⟩), (⟨#[98]⟩, ⟨#[]⟩)], []⟩ (by constructor <;> decide) (by constructor <;> decide)
  rw [show diff ⟨420, 0, 0, 0, [(⟨#[97]⟩, ⟨#[49]⟩), (⟨#[98]⟩, ⟨#[]⟩)], []⟩ ⟨420, 0, 0, 5, [(⟨#[97]⟩, ⟨#[49]⟩), (⟨#[98]⟩, ⟨#[]⟩)], []⟩ = ⟨#[116, 105, 109, 101]⟩ by decide +kernel] at d1
  refine callLT_of (d1) [] true [13] [] ?_ ?_
  · refine CallOk.of ?_ ?_ rfl ?_ rfl rfl rfl rfl ?_ rfl ?_ rfl
    all_goals simp [ML, args1, arg1, args0, lents1, lent1, lent0, lents0, lentB, rowsM, body0, only, sg, injB, apartB, keysOf, cur, resS, ↓get_cons', ↓hget_cons', Value.oneCell', eq_self, and_self, ne_eq, vI, rK_nil, rK_len, rK_take, rM_len, rM_take, Int.toNat_natCast, attrS, attrR, aceS, aceR, metaS, metaC, Int.cast_ofNat_Int, Int.reduceToNat, Int.toNat_zero, S.flat2, S.flat1, S.flat, Body.flat, rM_flat, rA_flat, rM, List.map]
  simp -implicitDefEqProofs only [RL0, RL1, RL2, RL3, RL4, RL5, RL6, RL7, RL8, chkW, ↓get_cons', ↓hget_cons', ↓hset_cons', St.gh, isNil, evalA, opTs, LOp.args, Nat.reduceBEq, renS, ren1, ren0, renB, only, sg, gmOf, wrN, buildCells, bsRows, Value.oneCell', setAt, eqCells, eqCell, vI, vB, vS, apartW, Nat.reduceEqDiff, Nat.reduceAdd, Nat.reduceSub, Nat.reduceMul, Nat.reduceLT, Nat.reduceLeDiff, Int.reduceEq, Int.reduceNe, Int.reduceLT, Int.reduceLE, reduceCtorEq, ↓reduceIte, ne_eq, eq_self, and_self, str_eq_iff, Int.toNat_natCast, attrS, attrR, aceS, aceR, metaS, metaC, Int.cast_ofNat_Int, Int.reduceToNat, Int.toNat_zero, callT, cellT]
  have d2 := diff_spec ⟨420, 0, 0, 0, [(⟨#[97]⟩, ⟨#[49]⟩), (⟨#[98]⟩, ⟨#[]⟩)], []⟩ ⟨420, 0, 0, 0, [(⟨#[97]⟩, ⟨#[49]⟩), (⟨#[98]⟩, ⟨#[]⟩)], []⟩ (by constructor <;> decide) (by constructor <;> decide)
  rw [show diff ⟨420, 0, 0, 0, [(⟨#[97]⟩, ⟨#[49]⟩), (⟨#[98]⟩, ⟨#[]⟩)], []⟩ ⟨420, 0, 0, 0, [(⟨#[97]⟩, ⟨#[49]⟩), (⟨#[98]⟩, ⟨#[]⟩)], []⟩ = ⟨#[]⟩ by decide +kernel] at d2
  refine callLT_of (d2) [] true [13] [] ?_ ?_
  · refine CallOk.of ?_ ?_ rfl ?_ rfl rfl rfl rfl ?_ rfl ?_ rfl
    all_goals simp [ML, args1, arg1, args0, lents1, lent1, lent0, lents0, lentB, rowsM, body0, only, sg, injB, apartB, keysOf, cur, resS, ↓get_cons', ↓hget_cons', Value.oneCell', eq_self, and_self, ne_eq, vI, rK_nil, rK_len, rK_take, rM_len, rM_take, Int.toNat_natCast, attrS, attrR, aceS, aceR, metaS, metaC, Int.cast_ofNat_Int, Int.reduceToNat, Int.toNat_zero, S.flat2, S.flat1, S.flat, Body.flat, rM_flat, rA_flat, rM, List.map]
  simp -implicitDefEqProofs only [RL0, RL1, RL2, RL3, RL4, RL5, RL6, RL7, RL8, chkW, ↓get_cons', ↓hget_cons', ↓hset_cons', St.gh, isNil, evalA, opTs, LOp.args, Nat.reduceBEq, renS, ren1, ren0, renB, only, sg, gmOf, wrN, buildCells, bsRows, Value.oneCell', setAt, eqCells, eqCell, vI, vB, vS, apartW, Nat.reduceEqDiff, Nat.reduceAdd, Nat.reduceSub, Nat.reduceMul, Nat.reduceLT, Nat.reduceLeDiff, Int.reduceEq, Int.reduceNe, Int.reduceLT, Int.reduceLE, reduceCtorEq, ↓reduceIte, ne_eq, eq_self, and_self, str_eq_iff, Int.toNat_natCast, attrS, attrR, aceS, aceR, metaS, metaC, Int.cast_ofNat_Int, Int.reduceToNat, Int.toNat_zero, callT, cellT]
  refine RetOk.of [] [] ?_ ?_ rfl ?_ rfl rfl ?_
  all_goals simp [ML, args1, arg1, args0, lents1, lent1, lent0, lents0, lentB, rowsM, body0, only, sg, injB, apartB, keysOf, cur, resS, ↓get_cons', ↓hget_cons', Value.oneCell', eq_self, and_self, ne_eq, vI, rK_nil, Int.toNat_natCast, attrS, attrR, aceS, aceR, metaS, metaC, Int.cast_ofNat_Int, Int.reduceToNat, Int.toNat_zero]
end Go.Proofs.Me
