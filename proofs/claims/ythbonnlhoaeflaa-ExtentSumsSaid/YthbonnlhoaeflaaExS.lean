import Derived.Test.YthbonnlhoaeflaaExB
import Derived.Test.YthbonnlhoaeflaaExTextM
set_option linter.unusedVariables false
set_option linter.unusedSimpArgs false
-- DEFS Int.toNat_natCast, cV, cR, c_set, List.length_set
namespace Go.Proofs.Ex
open Go.RowKit Go.Lib Go.Eng Go.Proofs Go.IntWalk
set_option maxRecDepth 100000
set_option linter.unusedVariables false
set_option linter.unusedSectionVars false
set_option maxHeartbeats 4000000
section
variable {α : Type} [Inhabited α]
theorem td_len (V U : List α) (h : V.length = U.length) (k : Nat) (hk : k ≤ U.length) : (V.take k ++ U.drop k).length = U.length := by simp; omega
theorem td_set (V U : List α) (h : V.length = U.length) (k : Nat) (hk : k < U.length) : (V.take k ++ U.drop k).set k (V.getD k default) = V.take (k + 1) ++ U.drop (k + 1) := by
  have h1 : (V.take k).length = k := by simp; omega
  rw [List.set_append_right (h := by omega), h1, Nat.sub_self, List.drop_eq_getElem_cons hk, List.set_cons_zero, List.take_succ_eq_append_getElem (by omega), List.append_assoc]
  rw [List.getD_eq_getElem?_getD, List.getElem?_eq_getElem (by omega)]; rfl
theorem td_get (V U : List α) (h : V.length = U.length) (k : Nat) (hk : k < U.length) : (V.take k ++ U.drop k).getD k default = U.getD k default := by
  have h1 : (V.take k).length = k := by simp; omega
  rw [List.getD_eq_getElem?_getD, List.getElem?_append_right (by omega), h1, Nat.sub_self, List.getElem?_drop, List.getD_eq_getElem?_getD]; rfl
end
abbrev CMP : Eng.S := .d (.v (.func (.func 32) #[] #[]))
theorem swap_spec (P U M V S : List Z) (h : V.length = U.length) (hl : (P ++ U ++ M ++ V ++ S).length ≤ 2 ^ 40) : Eng.Spec Try.prog 70 [1000] [(1000, ⟨0, .arr 1 (rM cR (P ++ U ++ M ++ V ++ S))⟩)]
    [.view 1000 0 0 (P ++ U ++ M ++ V ++ S).length, .d (.v (.int .i64 P.length)), .d (.v (.int .i64 (P.length + U.length + M.length : Nat))), .d (.v (.int .i64 U.length)), .d (.v (.func (.func 32) #[] #[]))]
    [(1000, ⟨0, .arr 1 (rM cR (P ++ V ++ M ++ U ++ S))⟩)] (.tup []) := by
  obtain ⟨n, hn⟩ : ∃ n, (P ++ U ++ M ++ V ++ S).length = n := ⟨_, rfl⟩
  have hn2 : n = P.length + U.length + M.length + V.length + S.length := by rw [← hn]; simp; omega
  rw [hn] at hl ⊢
  refine told_spec mixed f70_told f70_results f70_text rfl (by simp) rfl ?_
  simp only [initS, List.length_cons, List.length_nil, List.range, List.range.loop, List.getD_cons_zero, List.getD_cons_succ, List.cons_append, List.nil_append, Int.toNat_natCast, cV, cR, c_set, List.length_set]
  simp -implicitDefEqProofs only [RL0, RL1, RL2, RL3, RL4, RL5, RL6, RL7, RL8, RL9, chkW, ↓get_cons', ↓hget_cons', ↓hset_cons', St.gh, isNil, evalA, opTs, LOp.args, Nat.reduceBEq, renS, ren1, ren0, renB, only, sg, gmOf, wrN, buildCells, bsRows, Value.oneCell', setAt, eqCells, eqCell, vI, vB, vS, apartW, Nat.reduceEqDiff, Nat.reduceAdd, Nat.reduceSub, Nat.reduceMul, Nat.reduceLT, Nat.reduceLeDiff, Int.reduceEq, Int.reduceNe, Int.reduceLT, Int.reduceLE, reduceCtorEq, ↓reduceIte, ne_eq, eq_self, and_self, str_eq_iff]
  refine vc_loop (fun k : Nat => ⟨[(10, .d (.v (.int .i64 k))), (1, .d (.v (.int .i64 P.length))), (0, .view 1000 0 0 n), (2, .d (.v (.int .i64 (P.length + U.length + M.length : Nat)))), (3, .d (.v (.int .i64 U.length)))], [(1000, ⟨0, .arr 1 (rM cR (P ++ (V.take k ++ U.drop k) ++ M ++ (U.take k ++ V.drop k) ++ S))⟩)]⟩)
    (fun k => k ≤ U.length) (fun k => U.length - k) 0 (by omega) (LE.refl _ _) ?_
  rintro k g1
  have e3 : IntKind.i64.wrap ((k : Int) + 1) = ((k + 1 : Nat) : Int) := by rw [i64_in _ (by omega)]; omega
  have e4 : IntKind.i64.wrap ((P.length : Int) + (k : Int)) = ((P.length + k : Nat) : Int) := by rw [i64_in _ (by omega)]; omega
  have e5 : IntKind.i64.wrap (((P.length + U.length + M.length : Nat) : Int) + (k : Int)) = ((P.length + U.length + M.length + k : Nat) : Int) := by rw [i64_in _ (by omega)]; omega
  by_cases hk : k < U.length
  · have e1 : ((k : Int) < (U.length : Int)) = True := eq_true (by omega)
    have hW := td_len V U h k g1
    have hW2 := td_len U V h.symm k (by omega)
    have r1 : (P ++ (V.take k ++ U.drop k) ++ M ++ (U.take k ++ V.drop k) ++ S).getD (P.length + k) default = U.getD k default := by
      rw [List.append_assoc (P ++ _), List.append_assoc (P ++ _), mid_get _ _ _ _ (by omega), td_get V U h k hk]
    have hP : (P ++ (V.take k ++ U.drop k) ++ M).length = P.length + U.length + M.length := by rw [List.length_append, List.length_append, hW]
    have r2 : (P ++ (V.take k ++ U.drop k) ++ M ++ (U.take k ++ V.drop k) ++ S).getD (P.length + U.length + M.length + k) default = V.getD k default := by
      rw [← hP, mid_get _ _ _ _ (by omega), td_get U V h.symm k (by omega)]
    have hset : ((P ++ (V.take k ++ U.drop k) ++ M ++ (U.take k ++ V.drop k) ++ S).set (P.length + k) (V.getD k default)).set (P.length + U.length + M.length + k) (U.getD k default) = P ++ (V.take (k + 1) ++ U.drop (k + 1)) ++ M ++ (U.take (k + 1) ++ V.drop (k + 1)) ++ S := by
      rw [List.append_assoc (P ++ _), List.append_assoc (P ++ _), mid_set _ _ _ _ _ (by omega), td_set V U h k hk, ← List.append_assoc (P ++ _), ← List.append_assoc (P ++ _)]
      have hP2 : (P ++ (V.take (k + 1) ++ U.drop (k + 1)) ++ M).length = P.length + U.length + M.length := by rw [List.length_append, List.length_append, td_len V U h (k + 1) (by omega)]
      rw [← hP2, mid_set _ _ _ _ _ (by omega), td_set U V h.symm k (by omega)]
    have hlen : (P ++ (V.take k ++ U.drop k) ++ M ++ (U.take k ++ V.drop k) ++ S).length = n := by rw [List.length_append, List.length_append, hP, hW2]; omega
    simp -implicitDefEqProofs only [RL0, RL1, RL2, RL3, RL4, RL5, RL6, RL7, RL8, RL9, chkW, ↓get_cons', ↓hget_cons', ↓hset_cons', St.gh, isNil, evalA, opTs, LOp.args, Nat.reduceBEq, renS, ren1, ren0, renB, only, sg, gmOf, wrN, buildCells, bsRows, Value.oneCell', setAt, eqCells, eqCell, vI, vB, vS, apartW, Nat.reduceEqDiff, Nat.reduceAdd, Nat.reduceSub, Nat.reduceMul, Nat.reduceLT, Nat.reduceLeDiff, Int.reduceEq, Int.reduceNe, Int.reduceLT, Int.reduceLE, reduceCtorEq, ↓reduceIte, ne_eq, eq_self, and_self, str_eq_iff, Int.toNat_natCast, cV, cR, c_set, List.length_set, e1, e3, e4, e5, r1, r2]
    rw [hset]
    exact ⟨by omega, by omega, by omega, by omega, by omega, by omega, by omega, by omega, by omega, by omega, by omega, by omega, k + 1, by omega, by omega, LE.refl _ _⟩
  · have hk' : k = U.length := by omega
    subst hk'
    have e1 : ((U.length : Int) < (U.length : Int)) = False := eq_false (by omega)
    rw [List.take_of_length_le (by omega), List.take_of_length_le (Nat.le_refl _), List.drop_of_length_le (Nat.le_refl _), List.drop_of_length_le (by omega), List.append_nil, List.append_nil]
    simp -implicitDefEqProofs only [RL0, RL1, RL2, RL3, RL4, RL5, RL6, RL7, RL8, RL9, chkW, ↓get_cons', ↓hget_cons', ↓hset_cons', St.gh, isNil, evalA, opTs, LOp.args, Nat.reduceBEq, renS, ren1, ren0, renB, only, sg, gmOf, wrN, buildCells, bsRows, Value.oneCell', setAt, eqCells, eqCell, vI, vB, vS, apartW, Nat.reduceEqDiff, Nat.reduceAdd, Nat.reduceSub, Nat.reduceMul, Nat.reduceLT, Nat.reduceLeDiff, Int.reduceEq, Int.reduceNe, Int.reduceLT, Int.reduceLE, reduceCtorEq, ↓reduceIte, ne_eq, eq_self, and_self, str_eq_iff, Int.toNat_natCast, cV, cR, c_set, List.length_set, e1]
    refine RetOk.of [(1000, 1000)] [] ?_ ?_ rfl ?_ rfl rfl ?_
    all_goals simp [ML, args1, arg1, args0, lents1, lent1, lent0, lents0, lentB, rowsM, body0, only, sg, injB, apartB, keysOf, cur, resS, ↓get_cons', ↓hget_cons', Value.oneCell', eq_self, and_self, ne_eq, vI, rK_nil, Int.toNat_natCast, cV, cR, c_set, List.length_set]
theorem rotate_spec (P U V S : List Z) (hU : 0 < U.length) (hV : 0 < V.length) (hl : (P ++ U ++ V ++ S).length ≤ 2 ^ 40) : Eng.Spec Try.prog 67 [1000] [(1000, ⟨0, .arr 1 (rM cR (P ++ U ++ V ++ S))⟩)]
    [.view 1000 0 0 (P ++ U ++ V ++ S).length, .d (.v (.int .i64 P.length)), .d (.v (.int .i64 (P.length + U.length : Nat))), .d (.v (.int .i64 (P.length + U.length + V.length : Nat))), .d (.v (.func (.func 32) #[] #[]))]
    [(1000, ⟨0, .arr 1 (rM cR (P ++ V ++ U ++ S))⟩)] (.tup []) := by
  obtain ⟨n, hn⟩ : ∃ n, (P ++ U ++ V ++ S).length = n := ⟨_, rfl⟩
  have hn2 : n = P.length + U.length + V.length + S.length := by rw [← hn]; simp; omega
  rw [hn] at hl ⊢
  have w1 : IntKind.i64.wrap (((P.length + U.length : Nat) : Int) - (P.length : Int)) = (U.length : Int) := by rw [i64_in _ (by omega)]; omega
  have w2 : IntKind.i64.wrap (((P.length + U.length + V.length : Nat) : Int) - ((P.length + U.length : Nat) : Int)) = (V.length : Int) := by rw [i64_in _ (by omega)]; omega
  refine told_spec mixed f67_told f67_results f67_text rfl (by simp) rfl ?_
  simp only [initS, List.length_cons, List.length_nil, List.range, List.range.loop, List.getD_cons_zero, List.getD_cons_succ, List.cons_append, List.nil_append, Int.toNat_natCast, cV, cR, c_set, List.length_set]
  simp -implicitDefEqProofs only [RL0, RL1, RL2, RL3, RL4, RL5, RL6, RL7, RL8, RL9, chkW, ↓get_cons', ↓hget_cons', ↓hset_cons', St.gh, isNil, evalA, opTs, LOp.args, Nat.reduceBEq, renS, ren1, ren0, renB, only, sg, gmOf, wrN, buildCells, bsRows, Value.oneCell', setAt, eqCells, eqCell, vI, vB, vS, apartW, Nat.reduceEqDiff, Nat.reduceAdd, Nat.reduceSub, Nat.reduceMul, Nat.reduceLT, Nat.reduceLeDiff, Int.reduceEq, Int.reduceNe, Int.reduceLT, Int.reduceLE, reduceCtorEq, ↓reduceIte, ne_eq, eq_self, and_self, str_eq_iff]
  rw [w1, w2]
  refine vc_loop (fun x : List Z × List Z × List Z × List Z => ⟨[(11, .d (.v (.int .i64 x.2.2.1.length))), (10, .d (.v (.int .i64 x.2.1.length))), (4, .d (.v (.func (.func 32) #[] #[]))), (2, .d (.v (.int .i64 (P.length + U.length : Nat)))), (0, .view 1000 0 0 n)], [(1000, ⟨0, .arr 1 (rM cR (P ++ x.1 ++ x.2.1 ++ x.2.2.1 ++ x.2.2.2 ++ S))⟩)]⟩)
    (fun x => 0 < x.2.1.length ∧ 0 < x.2.2.1.length ∧ x.1.length + x.2.1.length = U.length ∧ x.2.2.1.length + x.2.2.2.length = V.length ∧ x.1 ++ x.2.2.1 ++ x.2.1 ++ x.2.2.2 = V ++ U) (fun x => x.2.1.length + x.2.2.1.length) ([], U, V, [])
    ⟨hU, hV, by simp, by simp, by simp⟩ (by simp only [List.append_nil]; exact LE.refl _ _) ?_
  rintro ⟨L, A, B, R⟩ ⟨g1, g2, g3, g4, g5⟩
  simp only at g1 g2 g3 g4 g5
  have hN : (P ++ L ++ A ++ B ++ R ++ S).length = n := by simp; omega
  rcases Nat.lt_trichotomy A.length B.length with hlt | heq | hgt
  · obtain ⟨B1, B2, rfl, hB⟩ : ∃ B1 B2, B = B1 ++ B2 ∧ B2.length = A.length := ⟨B.take (B.length - A.length), B.drop (B.length - A.length), (List.take_append_drop ..).symm, by simp; omega⟩
    rw [List.length_append] at hlt g2 g4
    have s1 := swap_spec (P ++ L) A B1 B2 (R ++ S) hB (by simp at hN ⊢; omega)
    rw [show (P ++ L) ++ A ++ B1 ++ B2 ++ (R ++ S) = P ++ L ++ A ++ (B1 ++ B2) ++ R ++ S by simp, hN] at s1
    have e1 : (¬ (A.length : Int) = ((B1 ++ B2).length : Int)) = True := eq_true (by rw [List.length_append]; omega)
    have e2 : (((B1 ++ B2).length : Int) < (A.length : Int)) = False := eq_false (by rw [List.length_append]; omega)
    have e3 : IntKind.i64.wrap (((P.length + U.length : Nat) : Int) - (A.length : Int)) = ((P ++ L).length : Int) := by rw [List.length_append, i64_in _ (by omega)]; omega
    have e4 : IntKind.i64.wrap (((P.length + U.length : Nat) : Int) + ((B1 ++ B2).length : Int)) = ((P.length + U.length + (B1 ++ B2).length : Nat) : Int) := by rw [List.length_append, i64_in _ (by omega)]; omega
    have e5 : IntKind.i64.wrap (((P.length + U.length + (B1 ++ B2).length : Nat) : Int) - (A.length : Int)) = (((P ++ L).length + A.length + B1.length : Nat) : Int) := by rw [List.length_append, List.length_append, i64_in _ (by omega)]; omega
    have e6 : IntKind.i64.wrap (((B1 ++ B2).length : Int) - (A.length : Int)) = (B1.length : Int) := by rw [List.length_append, i64_in _ (by omega)]; omega
    simp -implicitDefEqProofs only [RL0, RL1, RL2, RL3, RL4, RL5, RL6, RL7, RL8, RL9, chkW, ↓get_cons', ↓hget_cons', ↓hset_cons', St.gh, isNil, evalA, opTs, LOp.args, Nat.reduceBEq, renS, ren1, ren0, renB, only, sg, gmOf, wrN, buildCells, bsRows, Value.oneCell', setAt, eqCells, eqCell, vI, vB, vS, apartW, Nat.reduceEqDiff, Nat.reduceAdd, Nat.reduceSub, Nat.reduceMul, Nat.reduceLT, Nat.reduceLeDiff, Int.reduceEq, Int.reduceNe, Int.reduceLT, Int.reduceLE, reduceCtorEq, ↓reduceIte, ne_eq, eq_self, and_self, str_eq_iff, Int.toNat_natCast, cV, cR, c_set, List.length_set, e1, e2, e3, e4, e5, e6]
    refine callL_of (s1) [(1000, 1000)] false [] [] ?_ ?_
    · refine CallOk.of ?_ ?_ rfl ?_ rfl rfl rfl rfl ?_ rfl ?_ rfl
      all_goals simp [ML, args1, arg1, args0, lents1, lent1, lent0, lents0, lentB, rowsM, body0, only, sg, injB, apartB, keysOf, cur, resS, ↓get_cons', ↓hget_cons', Value.oneCell', eq_self, and_self, ne_eq, vI, rK_nil, rK_len, rK_take, rM_len, rM_take, Int.toNat_natCast, cV, cR, c_set, List.length_set, e6]
    simp -implicitDefEqProofs only [RL0, RL1, RL2, RL3, RL4, RL5, RL6, RL7, RL8, RL9, chkW, ↓get_cons', ↓hget_cons', ↓hset_cons', St.gh, isNil, evalA, opTs, LOp.args, Nat.reduceBEq, renS, ren1, ren0, renB, only, sg, gmOf, wrN, buildCells, bsRows, Value.oneCell', setAt, eqCells, eqCell, vI, vB, vS, apartW, Nat.reduceEqDiff, Nat.reduceAdd, Nat.reduceSub, Nat.reduceMul, Nat.reduceLT, Nat.reduceLeDiff, Int.reduceEq, Int.reduceNe, Int.reduceLT, Int.reduceLE, reduceCtorEq, ↓reduceIte, ne_eq, eq_self, and_self, str_eq_iff, Int.toNat_natCast, cV, cR, c_set, List.length_set, e6]
    refine ⟨(L, B2, B1, A ++ R), ⟨by simp only; omega, by simp only; omega, by simp only; omega, by simp only [List.length_append]; omega, by simp only; rw [← g5]; simp⟩, by simp only [List.length_append]; omega, ?_⟩
    simp only [hB, List.append_assoc]
    exact LE.refl _ _
  · have s1 := swap_spec (P ++ L) A [] B (R ++ S) heq.symm (by simp at hN ⊢; omega)
    rw [show (P ++ L) ++ A ++ [] ++ B ++ (R ++ S) = P ++ L ++ A ++ B ++ R ++ S by simp, hN, show (P ++ L) ++ B ++ [] ++ A ++ (R ++ S) = P ++ V ++ U ++ S by rw [List.append_nil, List.append_assoc P V U, ← g5]; simp] at s1
    have e1 : (¬ (A.length : Int) = (B.length : Int)) = False := eq_false (by omega)
    have e3 : IntKind.i64.wrap (((P.length + U.length : Nat) : Int) - (A.length : Int)) = ((P ++ L).length : Int) := by rw [List.length_append, i64_in _ (by omega)]; omega
    have e4 : ((P.length + U.length : Nat) : Int) = (((P ++ L).length + A.length + ([] : List Z).length : Nat) : Int) := by rw [List.length_append]; simp; omega
    simp -implicitDefEqProofs only [RL0, RL1, RL2, RL3, RL4, RL5, RL6, RL7, RL8, RL9, chkW, ↓get_cons', ↓hget_cons', ↓hset_cons', St.gh, isNil, evalA, opTs, LOp.args, Nat.reduceBEq, renS, ren1, ren0, renB, only, sg, gmOf, wrN, buildCells, bsRows, Value.oneCell', setAt, eqCells, eqCell, vI, vB, vS, apartW, Nat.reduceEqDiff, Nat.reduceAdd, Nat.reduceSub, Nat.reduceMul, Nat.reduceLT, Nat.reduceLeDiff, Int.reduceEq, Int.reduceNe, Int.reduceLT, Int.reduceLE, reduceCtorEq, ↓reduceIte, ne_eq, eq_self, and_self, str_eq_iff, Int.toNat_natCast, cV, cR, c_set, List.length_set, e1, e3]
    rw [e4]
    refine callL_of (s1) [(1000, 1000)] false [] [] ?_ ?_
    · refine CallOk.of ?_ ?_ rfl ?_ rfl rfl rfl rfl ?_ rfl ?_ rfl
      all_goals simp [ML, args1, arg1, args0, lents1, lent1, lent0, lents0, lentB, rowsM, body0, only, sg, injB, apartB, keysOf, cur, resS, ↓get_cons', ↓hget_cons', Value.oneCell', eq_self, and_self, ne_eq, vI, rK_nil, rK_len, rK_take, rM_len, rM_take, Int.toNat_natCast, cV, cR, c_set, List.length_set]
    simp -implicitDefEqProofs only [RL0, RL1, RL2, RL3, RL4, RL5, RL6, RL7, RL8, RL9, chkW, ↓get_cons', ↓hget_cons', ↓hset_cons', St.gh, isNil, evalA, opTs, LOp.args, Nat.reduceBEq, renS, ren1, ren0, renB, only, sg, gmOf, wrN, buildCells, bsRows, Value.oneCell', setAt, eqCells, eqCell, vI, vB, vS, apartW, Nat.reduceEqDiff, Nat.reduceAdd, Nat.reduceSub, Nat.reduceMul, Nat.reduceLT, Nat.reduceLeDiff, Int.reduceEq, Int.reduceNe, Int.reduceLT, Int.reduceLE, reduceCtorEq, ↓reduceIte, ne_eq, eq_self, and_self, str_eq_iff, Int.toNat_natCast, cV, cR, c_set, List.length_set]
    refine RetOk.of [(1000, 1000)] [] ?_ ?_ rfl ?_ rfl rfl ?_
    all_goals simp [ML, args1, arg1, args0, lents1, lent1, lent0, lents0, lentB, rowsM, body0, only, sg, injB, apartB, keysOf, cur, resS, ↓get_cons', ↓hget_cons', Value.oneCell', eq_self, and_self, ne_eq, vI, rK_nil, Int.toNat_natCast, cV, cR, c_set, List.length_set]
  · obtain ⟨A1, A2, rfl, hA⟩ : ∃ A1 A2, A = A1 ++ A2 ∧ A1.length = B.length := ⟨A.take B.length, A.drop B.length, (List.take_append_drop ..).symm, by simp; omega⟩
    rw [List.length_append] at hgt g1 g3
    have s1 := swap_spec (P ++ L) A1 A2 B (R ++ S) hA.symm (by simp at hN ⊢; omega)
    rw [show (P ++ L) ++ A1 ++ A2 ++ B ++ (R ++ S) = P ++ L ++ (A1 ++ A2) ++ B ++ R ++ S by simp, hN] at s1
    have e1 : (¬ ((A1 ++ A2).length : Int) = (B.length : Int)) = True := eq_true (by rw [List.length_append]; omega)
    have e2 : ((B.length : Int) < ((A1 ++ A2).length : Int)) = True := eq_true (by rw [List.length_append]; omega)
    have e3 : IntKind.i64.wrap (((P.length + U.length : Nat) : Int) - ((A1 ++ A2).length : Int)) = ((P ++ L).length : Int) := by rw [List.length_append, List.length_append, i64_in _ (by omega)]; omega
    have e4 : ((P.length + U.length : Nat) : Int) = (((P ++ L).length + A1.length + A2.length : Nat) : Int) := by rw [List.length_append]; omega
    have e6 : IntKind.i64.wrap (((A1 ++ A2).length : Int) - (B.length : Int)) = (A2.length : Int) := by rw [List.length_append, i64_in _ (by omega)]; omega
    rw [show (P ++ L).length + A1.length + A2.length = P.length + U.length by rw [List.length_append]; omega, hA] at s1
    simp -implicitDefEqProofs only [RL0, RL1, RL2, RL3, RL4, RL5, RL6, RL7, RL8, RL9, chkW, ↓get_cons', ↓hget_cons', ↓hset_cons', St.gh, isNil, evalA, opTs, LOp.args, Nat.reduceBEq, renS, ren1, ren0, renB, only, sg, gmOf, wrN, buildCells, bsRows, Value.oneCell', setAt, eqCells, eqCell, vI, vB, vS, apartW, Nat.reduceEqDiff, Nat.reduceAdd, Nat.reduceSub, Nat.reduceMul, Nat.reduceLT, Nat.reduceLeDiff, Int.reduceEq, Int.reduceNe, Int.reduceLT, Int.reduceLE, reduceCtorEq, ↓reduceIte, ne_eq, eq_self, and_self, str_eq_iff, Int.toNat_natCast, cV, cR, c_set, List.length_set, e1, e2, e3, e6]
    refine callL_of (s1) [(1000, 1000)] false [] [] ?_ ?_
    · refine CallOk.of ?_ ?_ rfl ?_ rfl rfl rfl rfl ?_ rfl ?_ rfl
      all_goals simp [ML, args1, arg1, args0, lents1, lent1, lent0, lents0, lentB, rowsM, body0, only, sg, injB, apartB, keysOf, cur, resS, ↓get_cons', ↓hget_cons', Value.oneCell', eq_self, and_self, ne_eq, vI, rK_nil, rK_len, rK_take, rM_len, rM_take, Int.toNat_natCast, cV, cR, c_set, List.length_set, e6]
    simp -implicitDefEqProofs only [RL0, RL1, RL2, RL3, RL4, RL5, RL6, RL7, RL8, RL9, chkW, ↓get_cons', ↓hget_cons', ↓hset_cons', St.gh, isNil, evalA, opTs, LOp.args, Nat.reduceBEq, renS, ren1, ren0, renB, only, sg, gmOf, wrN, buildCells, bsRows, Value.oneCell', setAt, eqCells, eqCell, vI, vB, vS, apartW, Nat.reduceEqDiff, Nat.reduceAdd, Nat.reduceSub, Nat.reduceMul, Nat.reduceLT, Nat.reduceLeDiff, Int.reduceEq, Int.reduceNe, Int.reduceLT, Int.reduceLE, reduceCtorEq, ↓reduceIte, ne_eq, eq_self, and_self, str_eq_iff, Int.toNat_natCast, cV, cR, c_set, List.length_set, e6]
    refine ⟨(L ++ B, A2, A1, R), ⟨by simp only; omega, by simp only; omega, by simp only [List.length_append]; omega, by simp only; omega, by simp only; rw [← g5]; simp⟩, by simp only [List.length_append]; omega, ?_⟩
    simp only [hA, List.append_assoc]
    exact LE.refl _ _
end Go.Proofs.Ex
