import Derived.Test.YtnjnfdjoonogaaaDoorAcG
set_option linter.unusedVariables false
set_option linter.unusedSimpArgs false
-- DEFS Int.toNat_natCast, aceR, aceS, sh6, sh3, andI_fold, foldM
namespace Go.Proofs.Ac
open Go.RowKit Go.Lib Go.Eng Go.Proofs Go.IntWalk
set_option maxRecDepth 100000
set_option linter.unusedVariables false
set_option maxHeartbeats 4000000
theorem small_u (u : Int) (k : Int) (hk : 0 < k) (hk2 : k ≤ 4096) : ∃ x : Int, IntKind.i64.wrap ((IntKind.u64.wrap u).tmod k) = x ∧ 0 ≤ x ∧ x < k := by
  have hu : 0 ≤ IntKind.u64.wrap u := by simp only [IntKind.wrap, IntKind.signed, IntKind.bits, Bool.false_and]; simp; omega
  have h1 := Int.tmod_nonneg k hu
  have h2 := Int.tmod_lt_of_pos (IntKind.u64.wrap u) hk
  exact ⟨_, rfl, by rw [i64_in _ (by omega)]; exact h1, by rw [i64_in _ (by omega)]; exact h2⟩
def LM (x y m : Int) : List Ac := [(1, 5, x), (2, 6, y), (3, 0, m)]
theorem foldM (x y m : Int) : ([[.v (.int .i64 1), .v (.int .i64 5), .v (.int .i64 x)], [.v (.int .i64 2), .v (.int .i64 6), .v (.int .i64 y)], [.v (.int .i64 3), .v (.int .i64 0), .v (.int .i64 m)]] : List (List D)) = rM aceR (LM x y m) := rfl
theorem may_LM (x y m : Int) (hx : 0 ≤ x ∧ x < 8) (hy : 0 ≤ y ∧ y < 8) (hm : 0 ≤ m ∧ m < 8) : mayA (LM x y m) := by
  refine ⟨?_, by show (3 : Nat) ≤ _; decide, .inr rfl⟩
  rintro j hj
  have hj' : j < 3 := hj
  clear hj
  match j, hj' with
  | 0, _ => exact ⟨⟨by show (1 : Int) ≤ 1; decide, by show (1 : Int) ≤ 3; decide, by show 0 ≤ x; omega, by show x ≤ 7; omega, by show (0 : Int) ≤ 5; decide, by show (5 : Int) ≤ 2147483647; decide, .inl (by show ¬ (1 : Int) = 3; decide)⟩, fun h => absurd h (by decide)⟩
  | 1, _ => exact ⟨⟨by show (1 : Int) ≤ 2; decide, by show (2 : Int) ≤ 3; decide, by show 0 ≤ y; omega, by show y ≤ 7; omega, by show (0 : Int) ≤ 6; decide, by show (6 : Int) ≤ 2147483647; decide, .inl (by show ¬ (2 : Int) = 3; decide)⟩, fun _ => by show cmpA (1, 5, x) (2, 6, y) < 0; simp [cmpA, cmpI]⟩
  | 2, _ => exact ⟨⟨by show (1 : Int) ≤ 3; decide, by show (3 : Int) ≤ 3; decide, by show 0 ≤ m; omega, by show m ≤ 7; omega, by show (0 : Int) ≤ 0; decide, by show (0 : Int) ≤ 2147483647; decide, .inr rfl⟩, fun _ => by show cmpA (2, 6, y) (3, 0, m) < 0; simp [cmpA, cmpI]⟩
theorem lets_LM (x y m o who a : Int) (gs : List Int) (hx : 0 ≤ x ∧ x < 8) (hy : 0 ≤ y ∧ y < 8) (hm : 0 ≤ m ∧ m < 8) (ha : 0 ≤ a ∧ a < 8) (h0 : who ≠ 0) :
    letsF (LM x y m) o 1 2 who gs a = if who = 1 then letsP a (o.fdiv 64) else scan who a m o gs (LM x y m) (decide (2 ∈ gs)) (decide (2 ∈ gs) && letsP a (andI (o.fdiv 8) m)) := by
  unfold letsF
  rw [if_neg (by rintro (q | q | q); exact q (may_LM x y m hx hy hm); omega; omega), if_neg h0]
  rfl
theorem mask_spec (u g mask mode ask : Int) : Eng.Spec Tryd.prog 4 [] [] [.d (.v (.int .i64 u)), .d (.v (.int .i64 g)), .d (.v (.int .i64 mask)), .d (.v (.int .i64 mode)), .d (.v (.int .i64 ask))] [] (.d (.v (.bool true))) := by
  obtain ⟨x, e1, hx⟩ := small_u u 8 (by decide) (by decide)
  obtain ⟨y, e2, hy⟩ := small_u g 8 (by decide) (by decide)
  obtain ⟨m, e3, hm⟩ := small_u mask 8 (by decide) (by decide)
  obtain ⟨o, e4, ho⟩ := small_u mode 512 (by decide) (by decide)
  obtain ⟨a, e5, ha⟩ := small_u ask 8 (by decide) (by decide)
  refine told_spec mixed f4_told f4_results f4_text rfl (by simp) rfl ?_
  simp only [initS, List.length_cons, List.length_nil, List.range, List.range.loop, List.getD_cons_zero, List.getD_cons_succ, List.cons_append, List.nil_append, Int.toNat_natCast, aceR, aceS, sh6, sh3, andI_fold, foldM]
  simp -implicitDefEqProofs only [RL0, RL1, RL2, RL3, RL4, RL5, RL6, RL7, RL8, chkW, ↓get_cons', ↓hget_cons', ↓hset_cons', St.gh, isNil, evalA, opTs, LOp.args, Nat.reduceBEq, renS, ren1, ren0, renB, only, sg, gmOf, wrN, buildCells, bsRows, Value.oneCell', setAt, eqCells, eqCell, vI, vB, vS, apartW, Nat.reduceEqDiff, Nat.reduceAdd, Nat.reduceSub, Nat.reduceMul, Nat.reduceLT, Nat.reduceLeDiff, Int.reduceEq, Int.reduceNe, Int.reduceLT, Int.reduceLE, reduceCtorEq, ↓reduceIte, ne_eq, eq_self, and_self, str_eq_iff]
  rw [e1, e2, e3, e4, e5]
  simp -implicitDefEqProofs only [RL0, RL1, RL2, RL3, RL4, RL5, RL6, RL7, RL8, chkW, ↓get_cons', ↓hget_cons', ↓hset_cons', St.gh, isNil, evalA, opTs, LOp.args, Nat.reduceBEq, renS, ren1, ren0, renB, only, sg, gmOf, wrN, buildCells, bsRows, Value.oneCell', setAt, eqCells, eqCell, vI, vB, vS, apartW, Nat.reduceEqDiff, Nat.reduceAdd, Nat.reduceSub, Nat.reduceMul, Nat.reduceLT, Nat.reduceLeDiff, Int.reduceEq, Int.reduceNe, Int.reduceLT, Int.reduceLE, reduceCtorEq, ↓reduceIte, ne_eq, eq_self, and_self, str_eq_iff, Int.toNat_natCast, aceR, aceS, sh6, sh3, andI_fold, foldM]
  have k1 := lets_spec (LM x y m) o 1 2 5 [] a (by show (3 : Nat) ≤ _; decide) (by simp)
  rw [show letsF (LM x y m) o 1 2 5 [] a = letsP a (andI x m) by rw [lets_LM x y m o 5 a [] hx hy hm ha (by decide)]; simp [LM, scan]] at k1
  have k2 := lets_spec (LM x y m) o 1 2 9 [6] a (by show (3 : Nat) ≤ _; decide) (by simp)
  rw [show letsF (LM x y m) o 1 2 9 [6] a = letsP a (andI y m) by rw [lets_LM x y m o 9 a [6] hx hy hm ha (by decide)]; simp [LM, scan]] at k2
  have k3 := lets_spec (LM x y m) o 1 2 1 [] a (by show (3 : Nat) ≤ _; decide) (by simp)
  rw [show letsF (LM x y m) o 1 2 1 [] a = letsP a (o.fdiv 64) by rw [lets_LM x y m o 1 a [] hx hy hm ha (by decide)]; simp [LM, scan]] at k3
  have k4 := lets_spec (LM x y m) o 1 2 9 [2] a (by show (3 : Nat) ≤ _; decide) (by simp)
  rw [show letsF (LM x y m) o 1 2 9 [2] a = letsP a (andI (o.fdiv 8) m) by rw [lets_LM x y m o 9 a [2] hx hy hm ha (by decide)]; simp [LM, scan]] at k4
  have k5 := lets_spec (LM x y m) o 1 2 9 [7] a (by show (3 : Nat) ≤ _; decide) (by simp)
  rw [show letsF (LM x y m) o 1 2 9 [7] a = letsP a o by rw [lets_LM x y m o 9 a [7] hx hy hm ha (by decide)]; simp [LM, scan]] at k5
  have tM : List.take 3 (LM x y m) = LM x y m := rfl
  have lM : (LM x y m).length = 3 := rfl
  refine callL_of (k1) [] true [48] [] ?_ ?_
  · refine CallOk.of ?_ ?_ rfl ?_ rfl rfl rfl rfl ?_ rfl ?_ rfl
    all_goals simp [ML, args1, arg1, args0, lents1, lent1, lent0, lents0, lentB, rowsM, body0, only, sg, injB, apartB, keysOf, cur, resS, ↓get_cons', ↓hget_cons', Value.oneCell', eq_self, and_self, ne_eq, vI, rK_nil, rK_len, rK_take, rM_len, rM_take, Int.toNat_natCast, aceR, aceS, sh6, sh3, andI_fold, foldM, S.flat2, S.flat1, S.flat, Body.flat, rA_flat, tM, lM]
  simp -implicitDefEqProofs only [RL0, RL1, RL2, RL3, RL4, RL5, RL6, RL7, RL8, chkW, ↓get_cons', ↓hget_cons', ↓hset_cons', St.gh, isNil, evalA, opTs, LOp.args, Nat.reduceBEq, renS, ren1, ren0, renB, only, sg, gmOf, wrN, buildCells, bsRows, Value.oneCell', setAt, eqCells, eqCell, vI, vB, vS, apartW, Nat.reduceEqDiff, Nat.reduceAdd, Nat.reduceSub, Nat.reduceMul, Nat.reduceLT, Nat.reduceLeDiff, Int.reduceEq, Int.reduceNe, Int.reduceLT, Int.reduceLE, reduceCtorEq, ↓reduceIte, ne_eq, eq_self, and_self, str_eq_iff, Int.toNat_natCast, aceR, aceS, sh6, sh3, andI_fold, foldM]
  refine callL_of (k2) [] true [48, 55] [55] ?_ ?_
  · refine CallOk.of ?_ ?_ rfl ?_ rfl rfl rfl rfl ?_ rfl ?_ rfl
    all_goals simp [ML, args1, arg1, args0, lents1, lent1, lent0, lents0, lentB, rowsM, body0, only, sg, injB, apartB, keysOf, cur, resS, ↓get_cons', ↓hget_cons', Value.oneCell', eq_self, and_self, ne_eq, vI, rK_nil, rK_len, rK_take, rM_len, rM_take, Int.toNat_natCast, aceR, aceS, sh6, sh3, andI_fold, foldM, S.flat2, S.flat1, S.flat, Body.flat, rA_flat, tM, lM, rK, List.map]
  simp -implicitDefEqProofs only [RL0, RL1, RL2, RL3, RL4, RL5, RL6, RL7, RL8, chkW, ↓get_cons', ↓hget_cons', ↓hset_cons', St.gh, isNil, evalA, opTs, LOp.args, Nat.reduceBEq, renS, ren1, ren0, renB, only, sg, gmOf, wrN, buildCells, bsRows, Value.oneCell', setAt, eqCells, eqCell, vI, vB, vS, apartW, Nat.reduceEqDiff, Nat.reduceAdd, Nat.reduceSub, Nat.reduceMul, Nat.reduceLT, Nat.reduceLeDiff, Int.reduceEq, Int.reduceNe, Int.reduceLT, Int.reduceLE, reduceCtorEq, ↓reduceIte, ne_eq, eq_self, and_self, str_eq_iff, Int.toNat_natCast, aceR, aceS, sh6, sh3, andI_fold, foldM]
  refine callL_of (k3) [] true [48] [] ?_ ?_
  · refine CallOk.of ?_ ?_ rfl ?_ rfl rfl rfl rfl ?_ rfl ?_ rfl
    all_goals simp [ML, args1, arg1, args0, lents1, lent1, lent0, lents0, lentB, rowsM, body0, only, sg, injB, apartB, keysOf, cur, resS, ↓get_cons', ↓hget_cons', Value.oneCell', eq_self, and_self, ne_eq, vI, rK_nil, rK_len, rK_take, rM_len, rM_take, Int.toNat_natCast, aceR, aceS, sh6, sh3, andI_fold, foldM, S.flat2, S.flat1, S.flat, Body.flat, rA_flat, tM, lM]
  simp -implicitDefEqProofs only [RL0, RL1, RL2, RL3, RL4, RL5, RL6, RL7, RL8, chkW, ↓get_cons', ↓hget_cons', ↓hset_cons', St.gh, isNil, evalA, opTs, LOp.args, Nat.reduceBEq, renS, ren1, ren0, renB, only, sg, gmOf, wrN, buildCells, bsRows, Value.oneCell', setAt, eqCells, eqCell, vI, vB, vS, apartW, Nat.reduceEqDiff, Nat.reduceAdd, Nat.reduceSub, Nat.reduceMul, Nat.reduceLT, Nat.reduceLeDiff, Int.reduceEq, Int.reduceNe, Int.reduceLT, Int.reduceLE, reduceCtorEq, ↓reduceIte, ne_eq, eq_self, and_self, str_eq_iff, Int.toNat_natCast, aceR, aceS, sh6, sh3, andI_fold, foldM]
  refine callL_of (k4) [] true [48, 64] [64] ?_ ?_
  · refine CallOk.of ?_ ?_ rfl ?_ rfl rfl rfl rfl ?_ rfl ?_ rfl
    all_goals simp [ML, args1, arg1, args0, lents1, lent1, lent0, lents0, lentB, rowsM, body0, only, sg, injB, apartB, keysOf, cur, resS, ↓get_cons', ↓hget_cons', Value.oneCell', eq_self, and_self, ne_eq, vI, rK_nil, rK_len, rK_take, rM_len, rM_take, Int.toNat_natCast, aceR, aceS, sh6, sh3, andI_fold, foldM, S.flat2, S.flat1, S.flat, Body.flat, rA_flat, tM, lM, rK, List.map]
  simp -implicitDefEqProofs only [RL0, RL1, RL2, RL3, RL4, RL5, RL6, RL7, RL8, chkW, ↓get_cons', ↓hget_cons', ↓hset_cons', St.gh, isNil, evalA, opTs, LOp.args, Nat.reduceBEq, renS, ren1, ren0, renB, only, sg, gmOf, wrN, buildCells, bsRows, Value.oneCell', setAt, eqCells, eqCell, vI, vB, vS, apartW, Nat.reduceEqDiff, Nat.reduceAdd, Nat.reduceSub, Nat.reduceMul, Nat.reduceLT, Nat.reduceLeDiff, Int.reduceEq, Int.reduceNe, Int.reduceLT, Int.reduceLE, reduceCtorEq, ↓reduceIte, ne_eq, eq_self, and_self, str_eq_iff, Int.toNat_natCast, aceR, aceS, sh6, sh3, andI_fold, foldM]
  refine callL_of (k5) [] true [48, 69] [69] ?_ ?_
  · refine CallOk.of ?_ ?_ rfl ?_ rfl rfl rfl rfl ?_ rfl ?_ rfl
    all_goals simp [ML, args1, arg1, args0, lents1, lent1, lent0, lents0, lentB, rowsM, body0, only, sg, injB, apartB, keysOf, cur, resS, ↓get_cons', ↓hget_cons', Value.oneCell', eq_self, and_self, ne_eq, vI, rK_nil, rK_len, rK_take, rM_len, rM_take, Int.toNat_natCast, aceR, aceS, sh6, sh3, andI_fold, foldM, S.flat2, S.flat1, S.flat, Body.flat, rA_flat, tM, lM, rK, List.map]
  simp -implicitDefEqProofs only [RL0, RL1, RL2, RL3, RL4, RL5, RL6, RL7, RL8, chkW, ↓get_cons', ↓hget_cons', ↓hset_cons', St.gh, isNil, evalA, opTs, LOp.args, Nat.reduceBEq, renS, ren1, ren0, renB, only, sg, gmOf, wrN, buildCells, bsRows, Value.oneCell', setAt, eqCells, eqCell, vI, vB, vS, apartW, Nat.reduceEqDiff, Nat.reduceAdd, Nat.reduceSub, Nat.reduceMul, Nat.reduceLT, Nat.reduceLeDiff, Int.reduceEq, Int.reduceNe, Int.reduceLT, Int.reduceLE, reduceCtorEq, ↓reduceIte, ne_eq, eq_self, and_self, str_eq_iff, Int.toNat_natCast, aceR, aceS, sh6, sh3, andI_fold, foldM]
  refine callL_of (told_spec6) [] false [] [] ?_ ?_
  · refine CallOk.of ?_ ?_ rfl ?_ rfl rfl rfl rfl ?_ rfl ?_ rfl
    all_goals simp [ML, args1, arg1, args0, lents1, lent1, lent0, lents0, lentB, rowsM, body0, only, sg, injB, apartB, keysOf, cur, resS, ↓get_cons', ↓hget_cons', Value.oneCell', eq_self, and_self, ne_eq, vI, rK_nil, rK_len, rK_take, rM_len, rM_take, Int.toNat_natCast, aceR, aceS, sh6, sh3, andI_fold, foldM, letsP]
  simp -implicitDefEqProofs only [RL0, RL1, RL2, RL3, RL4, RL5, RL6, RL7, RL8, chkW, ↓get_cons', ↓hget_cons', ↓hset_cons', St.gh, isNil, evalA, opTs, LOp.args, Nat.reduceBEq, renS, ren1, ren0, renB, only, sg, gmOf, wrN, buildCells, bsRows, Value.oneCell', setAt, eqCells, eqCell, vI, vB, vS, apartW, Nat.reduceEqDiff, Nat.reduceAdd, Nat.reduceSub, Nat.reduceMul, Nat.reduceLT, Nat.reduceLeDiff, Int.reduceEq, Int.reduceNe, Int.reduceLT, Int.reduceLE, reduceCtorEq, ↓reduceIte, ne_eq, eq_self, and_self, str_eq_iff, Int.toNat_natCast, aceR, aceS, sh6, sh3, andI_fold, foldM, letsP]
  refine RetOk.of [] [] ?_ ?_ rfl ?_ rfl rfl ?_
  all_goals simp [ML, args1, arg1, args0, lents1, lent1, lent0, lents0, lentB, rowsM, body0, only, sg, injB, apartB, keysOf, cur, resS, ↓get_cons', ↓hget_cons', Value.oneCell', eq_self, and_self, ne_eq, vI, rK_nil, Int.toNat_natCast, aceR, aceS, sh6, sh3, andI_fold, foldM]
end Go.Proofs.Ac
