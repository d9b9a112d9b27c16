import Derived.Test.YthbonnlhoaeflaaExX
import Derived.Test.YthbonnlhoaeflaaEngSn
set_option linter.unusedVariables false
set_option linter.unusedSimpArgs false
-- DEFS Int.toNat_natCast, cV, cR, c_set, List.length_set
namespace Go.Proofs.Ex
open Go.RowKit Go.Lib Go.Eng Go.Proofs Go.IntWalk
set_option maxRecDepth 100000
set_option linter.unusedVariables false
set_option maxHeartbeats 4000000
theorem stable_big (l : List Z) (hok : ∀ z ∈ l, okZ z) (hl : l.length ≤ 2 ^ 30) : Eng.Spec Try.prog 50 [1000] [(1000, ⟨0, .arr 1 (rM cR l)⟩)] [.view 1000 0 0 l.length, .d (.v (.int .i64 l.length)), .d (.v (.func (.func 32) #[] #[]))]
    [(1000, ⟨0, .arr 1 (rM cR (sortR ltZ l))⟩)] (.tup []) := by
  rw [ltZ_eq]
  refine told_spec mixed f50_told f50_results f50_text rfl (by simp) rfl ?_
  simp only [initS, List.length_cons, List.length_nil, List.range, List.range.loop, List.getD_cons_zero, List.getD_cons_succ, List.cons_append, List.nil_append, Int.toNat_natCast, cV, cR, c_set, List.length_set]
  simp -implicitDefEqProofs only [RL0, RL1, RL2, RL3, RL4, RL5, RL6, RL7, RL8, RL9, chkW, ↓get_cons', ↓hget_cons', ↓hset_cons', St.gh, isNil, evalA, opTs, LOp.args, Nat.reduceBEq, renS, ren1, ren0, renB, only, sg, gmOf, wrN, buildCells, bsRows, Value.oneCell', setAt, eqCells, eqCell, vI, vB, vS, apartW, Nat.reduceEqDiff, Nat.reduceAdd, Nat.reduceSub, Nat.reduceMul, Nat.reduceLT, Nat.reduceLeDiff, Int.reduceEq, Int.reduceNe, Int.reduceLT, Int.reduceLE, reduceCtorEq, ↓reduceIte, ne_eq, eq_self, and_self, str_eq_iff]
  refine vc_loop (fun t : Nat => ⟨[(6, .d (.v (.int .i64 20))), (8, .d (.v (.int .i64 (20 * t + 20 : Nat)))), (2, .d (.v (.func (.func 32) #[] #[]))), (7, .d (.v (.int .i64 (20 * t : Nat)))), (0, .view 1000 0 0 l.length), (1, .d (.v (.int .i64 l.length)))], [(1000, ⟨0, .arr 1 (rM cR (blks keyZ 20 l 0 t ++ l.drop (20 * t)))⟩)]⟩)
    (fun t => 20 * t ≤ l.length) (fun t => l.length - 20 * t) 0 (by omega) (LE.refl _ _) ?_
  rintro t ht
  have hbl : (blks keyZ 20 l 0 t).length = 20 * t := blks_len keyZ (by omega)
  by_cases h20 : 20 * t + 20 ≤ l.length
  · have e0 : (((20 * t + 20 : Nat) : Int) ≤ (l.length : Int)) = True := eq_true (by omega)
    have e1 : IntKind.i64.wrap (((20 * t + 20 : Nat) : Int) + 20) = ((20 * (t + 1) + 20 : Nat) : Int) := by rw [i64_in _ (by omega)]; omega
    have e2 : ((20 * t + 20 : Nat) : Int) = ((20 * (t + 1) : Nat) : Int) := by omega
    have s1 := isort_spec (blks keyZ 20 l 0 t) ((l.drop (20 * t)).take 20) (l.drop (20 * (t + 1))) (fun z hz => hok z (List.mem_of_mem_drop (List.mem_of_mem_take hz))) (by simp only [List.length_append, hbl, List.length_take, List.length_drop]; omega)
    have a1 : (l.drop (20 * t)).take 20 ++ l.drop (20 * (t + 1)) = l.drop (20 * t) := by
      rw [Nat.mul_add, Nat.mul_one, ← List.drop_drop, List.take_append_drop]
    have a2 : ((l.drop (20 * t)).take 20).length = 20 := by simp only [List.length_take, List.length_drop]; omega
    have a3 : (blks keyZ 20 l 0 t ++ l.drop (20 * t)).length = l.length := by simp only [List.length_append, hbl, List.length_drop]; omega
    have a4 : blks keyZ 20 l 0 t ++ sortR ltZ ((l.drop (20 * t)).take 20) ++ l.drop (20 * (t + 1)) = blks keyZ 20 l 0 (t + 1) ++ l.drop (20 * (t + 1)) := by
      rw [blks_snoc, Nat.zero_add, ltZ_eq]; rfl
    rw [a4, List.append_assoc, a1, a2, a3, hbl] at s1
    simp -implicitDefEqProofs only [RL0, RL1, RL2, RL3, RL4, RL5, RL6, RL7, RL8, RL9, chkW, ↓get_cons', ↓hget_cons', ↓hset_cons', St.gh, isNil, evalA, opTs, LOp.args, Nat.reduceBEq, renS, ren1, ren0, renB, only, sg, gmOf, wrN, buildCells, bsRows, Value.oneCell', setAt, eqCells, eqCell, vI, vB, vS, apartW, Nat.reduceEqDiff, Nat.reduceAdd, Nat.reduceSub, Nat.reduceMul, Nat.reduceLT, Nat.reduceLeDiff, Int.reduceEq, Int.reduceNe, Int.reduceLT, Int.reduceLE, reduceCtorEq, ↓reduceIte, ne_eq, eq_self, and_self, str_eq_iff, Int.toNat_natCast, cV, cR, c_set, List.length_set, e0]
    refine callL_of (s1) [(1000, 1000)] false [] [] ?_ ?_
    · refine CallOk.of ?_ ?_ rfl ?_ rfl rfl rfl rfl ?_ rfl ?_ rfl
      all_goals simp [ML, args1, arg1, args0, lents1, lent1, lent0, lents0, lentB, rowsM, body0, only, sg, injB, apartB, keysOf, cur, resS, ↓get_cons', ↓hget_cons', Value.oneCell', eq_self, and_self, ne_eq, vI, rK_nil, rK_len, rK_take, rM_len, rM_take, Int.toNat_natCast, cV, cR, c_set, List.length_set, e1]
    simp -implicitDefEqProofs only [RL0, RL1, RL2, RL3, RL4, RL5, RL6, RL7, RL8, RL9, chkW, ↓get_cons', ↓hget_cons', ↓hset_cons', St.gh, isNil, evalA, opTs, LOp.args, Nat.reduceBEq, renS, ren1, ren0, renB, only, sg, gmOf, wrN, buildCells, bsRows, Value.oneCell', setAt, eqCells, eqCell, vI, vB, vS, apartW, Nat.reduceEqDiff, Nat.reduceAdd, Nat.reduceSub, Nat.reduceMul, Nat.reduceLT, Nat.reduceLeDiff, Int.reduceEq, Int.reduceNe, Int.reduceLT, Int.reduceLE, reduceCtorEq, ↓reduceIte, ne_eq, eq_self, and_self, str_eq_iff, Int.toNat_natCast, cV, cR, c_set, List.length_set, e1]
    refine ⟨t + 1, by omega, by omega, ?_⟩
    rw [e2]
    exact LE.refl _ _
  · have e0 : (((20 * t + 20 : Nat) : Int) ≤ (l.length : Int)) = False := eq_false (by omega)
    have s1 := isort_spec (blks keyZ 20 l 0 t) (l.drop (20 * t)) [] (fun z hz => hok z (List.mem_of_mem_drop hz)) (by simp only [List.length_append, hbl, List.length_drop, List.length_nil]; omega)
    have a3 : (blks keyZ 20 l 0 t ++ l.drop (20 * t)).length = l.length := by simp only [List.length_append, hbl, List.length_drop]; omega
    have a5 : l.length / 20 = t := by omega
    have a4 : blks keyZ 20 l 0 t ++ sortR ltZ (l.drop (20 * t)) = rowB keyZ 20 l := by unfold rowB; rw [a5, ltZ_eq]
    have a6 : 20 * t + (l.drop (20 * t)).length = l.length := by rw [List.length_drop]; omega
    rw [List.append_nil, List.append_nil, a4, a3, hbl, a6] at s1
    simp -implicitDefEqProofs only [RL0, RL1, RL2, RL3, RL4, RL5, RL6, RL7, RL8, RL9, chkW, ↓get_cons', ↓hget_cons', ↓hset_cons', St.gh, isNil, evalA, opTs, LOp.args, Nat.reduceBEq, renS, ren1, ren0, renB, only, sg, gmOf, wrN, buildCells, bsRows, Value.oneCell', setAt, eqCells, eqCell, vI, vB, vS, apartW, Nat.reduceEqDiff, Nat.reduceAdd, Nat.reduceSub, Nat.reduceMul, Nat.reduceLT, Nat.reduceLeDiff, Int.reduceEq, Int.reduceNe, Int.reduceLT, Int.reduceLE, reduceCtorEq, ↓reduceIte, ne_eq, eq_self, and_self, str_eq_iff, Int.toNat_natCast, cV, cR, c_set, List.length_set, e0]
    refine callL_of (s1) [(1000, 1000)] false [] [] ?_ ?_
    · refine CallOk.of ?_ ?_ rfl ?_ rfl rfl rfl rfl ?_ rfl ?_ rfl
      all_goals simp [ML, args1, arg1, args0, lents1, lent1, lent0, lents0, lentB, rowsM, body0, only, sg, injB, apartB, keysOf, cur, resS, ↓get_cons', ↓hget_cons', Value.oneCell', eq_self, and_self, ne_eq, vI, rK_nil, rK_len, rK_take, rM_len, rM_take, Int.toNat_natCast, cV, cR, c_set, List.length_set]
    simp -implicitDefEqProofs only [RL0, RL1, RL2, RL3, RL4, RL5, RL6, RL7, RL8, RL9, chkW, ↓get_cons', ↓hget_cons', ↓hset_cons', St.gh, isNil, evalA, opTs, LOp.args, Nat.reduceBEq, renS, ren1, ren0, renB, only, sg, gmOf, wrN, buildCells, bsRows, Value.oneCell', setAt, eqCells, eqCell, vI, vB, vS, apartW, Nat.reduceEqDiff, Nat.reduceAdd, Nat.reduceSub, Nat.reduceMul, Nat.reduceLT, Nat.reduceLeDiff, Int.reduceEq, Int.reduceNe, Int.reduceLT, Int.reduceLE, reduceCtorEq, ↓reduceIte, ne_eq, eq_self, and_self, str_eq_iff, Int.toNat_natCast, cV, cR, c_set, List.length_set]
    refine vc_loop (fun bs : Nat => ⟨[(6, .d (.v (.int .i64 bs))), (2, .d (.v (.func (.func 32) #[] #[]))), (0, .view 1000 0 0 l.length), (1, .d (.v (.int .i64 l.length)))], [(1000, ⟨0, .arr 1 (rM cR (rowB keyZ bs l))⟩)]⟩)
      (fun bs => 20 ≤ bs ∧ bs ≤ 2 * l.length + 20) (fun bs => l.length - bs) 20 (by omega) (LE.refl _ _) ?_
    rintro bs ⟨hb1, hb2⟩
    by_cases hbn : bs < l.length
    · have e4 : ((bs : Int) < (l.length : Int)) = True := eq_true (by omega)
      have e5 : IntKind.i64.wrap (2 * (bs : Int)) = ((2 * bs : Nat) : Int) := by rw [i64_in _ (by omega)]; omega
      have e6 : IntKind.i64.wrap ((bs : Int) * 2) = ((2 * bs : Nat) : Int) := by rw [i64_in _ (by omega)]; omega
      simp -implicitDefEqProofs only [RL0, RL1, RL2, RL3, RL4, RL5, RL6, RL7, RL8, RL9, chkW, ↓get_cons', ↓hget_cons', ↓hset_cons', St.gh, isNil, evalA, opTs, LOp.args, Nat.reduceBEq, renS, ren1, ren0, renB, only, sg, gmOf, wrN, buildCells, bsRows, Value.oneCell', setAt, eqCells, eqCell, vI, vB, vS, apartW, Nat.reduceEqDiff, Nat.reduceAdd, Nat.reduceSub, Nat.reduceMul, Nat.reduceLT, Nat.reduceLeDiff, Int.reduceEq, Int.reduceNe, Int.reduceLT, Int.reduceLE, reduceCtorEq, ↓reduceIte, ne_eq, eq_self, and_self, str_eq_iff, Int.toNat_natCast, cV, cR, c_set, List.length_set, e4, e5]
      obtain ⟨T, hT⟩ : ∃ T, l.length / bs = T := ⟨_, rfl⟩
      have hTa : bs * T ≤ l.length := by rw [← hT]; exact Nat.mul_div_le _ _
      have hTb : l.length < bs * T + bs := by rw [← hT, ← Nat.mul_succ]; exact Nat.lt_mul_div_succ _ (by omega)
      refine vc_loop (fun s : Nat => ⟨[(6, .d (.v (.int .i64 bs))), (8, .d (.v (.int .i64 (2 * bs * s + 2 * bs : Nat)))), (2, .d (.v (.func (.func 32) #[] #[]))), (7, .d (.v (.int .i64 (2 * bs * s : Nat)))), (0, .view 1000 0 0 l.length), (1, .d (.v (.int .i64 l.length)))], [(1000, ⟨0, .arr 1 (rM cR (blks keyZ (2 * bs) l 0 s ++ blks keyZ bs l (2 * s) (T - 2 * s) ++ sortR (ltK keyZ) (l.drop (bs * T))))⟩)]⟩)
        (fun s => 2 * s ≤ T) (fun s => T - 2 * s) 0 (by omega) (by simp only [Nat.mul_zero, Nat.zero_add]; rw [show rowB keyZ bs l = blks keyZ (2 * bs) l 0 0 ++ blks keyZ bs l 0 (T - 0) ++ sortR (ltK keyZ) (l.drop (bs * T)) by unfold rowB; rw [hT]; rfl]; exact LE.refl _ _) ?_
      rintro s hs
      have hK1 : 2 * bs * s = bs * (2 * s) := by rw [Nat.mul_comm 2 bs, Nat.mul_assoc]
      have hK2 : bs * (2 * s + 1) = bs * (2 * s) + bs := Nat.mul_succ ..
      have hK3 : bs * (2 * s + 2) = bs * (2 * s) + bs + bs := by rw [show 2 * s + 2 = (2 * s + 1) + 1 by omega, Nat.mul_succ, hK2]
      have hK4 : 2 * bs * (s + 1) = bs * (2 * s) + 2 * bs := by rw [Nat.mul_succ, hK1]
      have hK0 : bs * (2 * s) ≤ bs * T := Nat.mul_le_mul_left _ hs
      have hP : (blks keyZ (2 * bs) l 0 s).length = bs * (2 * s) := by rw [blks_len keyZ (by rw [Nat.zero_add, hK1]; omega), hK1]
      rw [hK1]
      by_cases h2 : 2 * s + 2 ≤ T
      · have hge : bs * (2 * s + 2) ≤ bs * T := Nat.mul_le_mul_left _ h2
        obtain ⟨r, hr⟩ : ∃ r, T - 2 * s = r + 2 := ⟨T - 2 * s - 2, by omega⟩
        have lX : (blk keyZ bs l (2 * s)).length = bs := blk_len keyZ (by omega)
        have lY : (blk keyZ bs l (2 * s + 1)).length = bs := blk_len keyZ (by rw [show 2 * s + 1 + 1 = 2 * s + 2 by omega]; omega)
        have lR : (blks keyZ bs l (2 * s + 2) r ++ sortR (ltK keyZ) (l.drop (bs * T))).length = l.length - bs * (2 * s + 2) := by
          have hT2 : 2 * s + 2 + r = T := by omega
          have hq : bs * T = bs * (2 * s + 2) + bs * r := by rw [← hT2, Nat.mul_add]
          rw [List.length_append, blks_len keyZ (by rw [hT2]; exact hTa), sortR_len, List.length_drop]
          omega
        have s1 := sm_spec (2 * bs) (blks keyZ (2 * bs) l 0 s) (blk keyZ bs l (2 * s)) (blk keyZ bs l (2 * s + 1)) (blks keyZ bs l (2 * s + 2) r ++ sortR (ltK keyZ) (l.drop (bs * T))) (by omega) (by omega) (by omega) (sortK_sorted keyZ _) (sortK_sorted keyZ _)
          (fun z hz => by
            rcases List.mem_append.1 hz with hz | hz
            · exact hok z (List.mem_of_mem_drop (List.mem_of_mem_take ((sortK_mem keyZ).1 hz)))
            · exact hok z (List.mem_of_mem_drop (List.mem_of_mem_take ((sortK_mem keyZ).1 hz))))
          (by simp only [List.length_append] at lR ⊢; rw [hP, lX, lY]; omega)
        have a1 : blks keyZ (2 * bs) l 0 s ++ blk keyZ bs l (2 * s) ++ blk keyZ bs l (2 * s + 1) ++ (blks keyZ bs l (2 * s + 2) r ++ sortR (ltK keyZ) (l.drop (bs * T))) = blks keyZ (2 * bs) l 0 s ++ blks keyZ bs l (2 * s) (T - 2 * s) ++ sortR (ltK keyZ) (l.drop (bs * T)) := by
          rw [hr]; simp only [blks, List.append_assoc]
        have a2 : blks keyZ (2 * bs) l 0 s ++ sortR ltZ (blk keyZ bs l (2 * s) ++ blk keyZ bs l (2 * s + 1)) ++ (blks keyZ bs l (2 * s + 2) r ++ sortR (ltK keyZ) (l.drop (bs * T))) = blks keyZ (2 * bs) l 0 (s + 1) ++ blks keyZ bs l (2 * (s + 1)) (T - 2 * (s + 1)) ++ sortR (ltK keyZ) (l.drop (bs * T)) := by
          rw [ltZ_eq, blk_join, blks_snoc, Nat.zero_add, show T - 2 * (s + 1) = r by omega, show 2 * (s + 1) = 2 * s + 2 by omega]; simp only [List.append_assoc]
        have a3 : (blks keyZ (2 * bs) l 0 s ++ blks keyZ bs l (2 * s) (T - 2 * s) ++ sortR (ltK keyZ) (l.drop (bs * T))).length = l.length := by
          rw [← a1, List.length_append, List.length_append, List.length_append, lR, hP, lX, lY]; omega
        rw [a1, a2, a3, hP, lX, lY] at s1
        have e7 : (((bs * (2 * s) + 2 * bs : Nat) : Int) ≤ (l.length : Int)) = True := eq_true (by omega)
        have e8 : IntKind.i64.wrap (((bs * (2 * s) : Nat) : Int) + (bs : Int)) = ((bs * (2 * s) + bs : Nat) : Int) := by rw [i64_in _ (by omega)]; omega
        have e9 : IntKind.i64.wrap (((bs * (2 * s) + 2 * bs : Nat) : Int) + ((2 * bs : Nat) : Int)) = ((bs * (2 * s) + 2 * bs + 2 * bs : Nat) : Int) := by rw [i64_in _ (by omega)]; omega
        have e10 : ((bs * (2 * s) + 2 * bs : Nat) : Int) = ((bs * (2 * s) + bs + bs : Nat) : Int) := by omega
        simp -implicitDefEqProofs only [RL0, RL1, RL2, RL3, RL4, RL5, RL6, RL7, RL8, RL9, chkW, ↓get_cons', ↓hget_cons', ↓hset_cons', St.gh, isNil, evalA, opTs, LOp.args, Nat.reduceBEq, renS, ren1, ren0, renB, only, sg, gmOf, wrN, buildCells, bsRows, Value.oneCell', setAt, eqCells, eqCell, vI, vB, vS, apartW, Nat.reduceEqDiff, Nat.reduceAdd, Nat.reduceSub, Nat.reduceMul, Nat.reduceLT, Nat.reduceLeDiff, Int.reduceEq, Int.reduceNe, Int.reduceLT, Int.reduceLE, reduceCtorEq, ↓reduceIte, ne_eq, eq_self, and_self, str_eq_iff, Int.toNat_natCast, cV, cR, c_set, List.length_set, e7, e8, e5]
        rw [e10]
        refine callL_of (s1) [(1000, 1000)] false [] [] ?_ ?_
        · refine CallOk.of ?_ ?_ rfl ?_ rfl rfl rfl rfl ?_ rfl ?_ rfl
          all_goals simp [ML, args1, arg1, args0, lents1, lent1, lent0, lents0, lentB, rowsM, body0, only, sg, injB, apartB, keysOf, cur, resS, ↓get_cons', ↓hget_cons', Value.oneCell', eq_self, and_self, ne_eq, vI, rK_nil, rK_len, rK_take, rM_len, rM_take, Int.toNat_natCast, cV, cR, c_set, List.length_set, e8, e5]
        simp -implicitDefEqProofs only [RL0, RL1, RL2, RL3, RL4, RL5, RL6, RL7, RL8, RL9, chkW, ↓get_cons', ↓hget_cons', ↓hset_cons', St.gh, isNil, evalA, opTs, LOp.args, Nat.reduceBEq, renS, ren1, ren0, renB, only, sg, gmOf, wrN, buildCells, bsRows, Value.oneCell', setAt, eqCells, eqCell, vI, vB, vS, apartW, Nat.reduceEqDiff, Nat.reduceAdd, Nat.reduceSub, Nat.reduceMul, Nat.reduceLT, Nat.reduceLeDiff, Int.reduceEq, Int.reduceNe, Int.reduceLT, Int.reduceLE, reduceCtorEq, ↓reduceIte, ne_eq, eq_self, and_self, str_eq_iff, Int.toNat_natCast, cV, cR, c_set, List.length_set, e8, e5]
        have e11 : IntKind.i64.wrap (((bs * (2 * s) + bs + bs : Nat) : Int) + ((2 * bs : Nat) : Int)) = ((2 * bs * (s + 1) + 2 * bs : Nat) : Int) := by rw [i64_in _ (by omega)]; omega
        have e12 : bs * (2 * s) + bs + bs = 2 * bs * (s + 1) := by omega
        rw [e11, e12]
        exact ⟨s + 1, by omega, by omega, LE.refl _ _⟩
      · have hle : bs * T ≤ bs * (2 * s + 1) := Nat.mul_le_mul_left _ (by omega)
        have e7 : (((bs * (2 * s) + 2 * bs : Nat) : Int) ≤ (l.length : Int)) = False := eq_false (by omega)
        have e8 : IntKind.i64.wrap (((bs * (2 * s) : Nat) : Int) + (bs : Int)) = ((bs * (2 * s) + bs : Nat) : Int) := by rw [i64_in _ (by omega)]; omega
        have hdiv : l.length / (2 * bs) = s := Nat.div_eq_of_lt_le (by rw [Nat.mul_comm]; omega) (by rw [Nat.mul_comm, hK4]; omega)
        have hrow : rowB keyZ (2 * bs) l = blks keyZ (2 * bs) l 0 s ++ sortR (ltK keyZ) (l.drop (2 * bs * s)) := by unfold rowB; rw [hdiv]
        by_cases hm : bs * (2 * s) + bs < l.length
        · have hT1 : T = 2 * s + 1 := by
            rcases Nat.lt_or_ge T (2 * s + 1) with q | q
            · have : T = 2 * s := by omega
              rw [this] at hTb; omega
            · omega
          have lX : (blk keyZ bs l (2 * s)).length = bs := blk_len keyZ (by omega)
          have lY : (sortR (ltK keyZ) (l.drop (bs * T))).length = l.length - (bs * (2 * s) + bs) := by rw [sortR_len, List.length_drop, hT1, hK2]
          have s1 := sm_spec l.length (blks keyZ (2 * bs) l 0 s) (blk keyZ bs l (2 * s)) (sortR (ltK keyZ) (l.drop (bs * T))) [] (by omega) (by omega) (by omega) (sortK_sorted keyZ _) (sortK_sorted keyZ _)
            (fun z hz => by
              rcases List.mem_append.1 hz with hz | hz
              · exact hok z (List.mem_of_mem_drop (List.mem_of_mem_take ((sortK_mem keyZ).1 hz)))
              · exact hok z (List.mem_of_mem_drop ((sortK_mem keyZ).1 hz)))
            (by simp only [List.length_append, List.length_nil]; rw [hP, lX, lY]; omega)
          have a1 : blks keyZ (2 * bs) l 0 s ++ blks keyZ bs l (2 * s) (T - 2 * s) ++ sortR (ltK keyZ) (l.drop (bs * T)) = blks keyZ (2 * bs) l 0 s ++ blk keyZ bs l (2 * s) ++ sortR (ltK keyZ) (l.drop (bs * T)) := by
            rw [show T - 2 * s = 1 by omega]; simp only [blks, List.append_nil]
          have a2 : blks keyZ (2 * bs) l 0 s ++ sortR ltZ (blk keyZ bs l (2 * s) ++ sortR (ltK keyZ) (l.drop (bs * T))) = rowB keyZ (2 * bs) l := by
            rw [hrow, ltZ_eq, hT1, last_join]
          have a3 : (blks keyZ (2 * bs) l 0 s ++ blk keyZ bs l (2 * s) ++ sortR (ltK keyZ) (l.drop (bs * T))).length = l.length := by
            rw [List.length_append, List.length_append, hP, lX, lY]; omega
          rw [List.append_nil, List.append_nil, a2, a3, hP, lX, lY, show bs * (2 * s) + bs + (l.length - (bs * (2 * s) + bs)) = l.length by omega] at s1
          have e9 : (((bs * (2 * s) + bs : Nat) : Int) < (l.length : Int)) = True := eq_true (by omega)
          rw [a1]
          simp -implicitDefEqProofs only [RL0, RL1, RL2, RL3, RL4, RL5, RL6, RL7, RL8, RL9, chkW, ↓get_cons', ↓hget_cons', ↓hset_cons', St.gh, isNil, evalA, opTs, LOp.args, Nat.reduceBEq, renS, ren1, ren0, renB, only, sg, gmOf, wrN, buildCells, bsRows, Value.oneCell', setAt, eqCells, eqCell, vI, vB, vS, apartW, Nat.reduceEqDiff, Nat.reduceAdd, Nat.reduceSub, Nat.reduceMul, Nat.reduceLT, Nat.reduceLeDiff, Int.reduceEq, Int.reduceNe, Int.reduceLT, Int.reduceLE, reduceCtorEq, ↓reduceIte, ne_eq, eq_self, and_self, str_eq_iff, Int.toNat_natCast, cV, cR, c_set, List.length_set, e7, e8, e9, e6]
          refine callL_of (s1) [(1000, 1000)] false [] [] ?_ ?_
          · refine CallOk.of ?_ ?_ rfl ?_ rfl rfl rfl rfl ?_ rfl ?_ rfl
            all_goals simp [ML, args1, arg1, args0, lents1, lent1, lent0, lents0, lentB, rowsM, body0, only, sg, injB, apartB, keysOf, cur, resS, ↓get_cons', ↓hget_cons', Value.oneCell', eq_self, and_self, ne_eq, vI, rK_nil, rK_len, rK_take, rM_len, rM_take, Int.toNat_natCast, cV, cR, c_set, List.length_set, e6]
          simp -implicitDefEqProofs only [RL0, RL1, RL2, RL3, RL4, RL5, RL6, RL7, RL8, RL9, chkW, ↓get_cons', ↓hget_cons', ↓hset_cons', St.gh, isNil, evalA, opTs, LOp.args, Nat.reduceBEq, renS, ren1, ren0, renB, only, sg, gmOf, wrN, buildCells, bsRows, Value.oneCell', setAt, eqCells, eqCell, vI, vB, vS, apartW, Nat.reduceEqDiff, Nat.reduceAdd, Nat.reduceSub, Nat.reduceMul, Nat.reduceLT, Nat.reduceLeDiff, Int.reduceEq, Int.reduceNe, Int.reduceLT, Int.reduceLE, reduceCtorEq, ↓reduceIte, ne_eq, eq_self, and_self, str_eq_iff, Int.toNat_natCast, cV, cR, c_set, List.length_set, e6]
          exact ⟨2 * bs, by omega, by omega, LE.refl _ _⟩
        · have e9 : (((bs * (2 * s) + bs : Nat) : Int) < (l.length : Int)) = False := eq_false (by omega)
          have a1 : blks keyZ (2 * bs) l 0 s ++ blks keyZ bs l (2 * s) (T - 2 * s) ++ sortR (ltK keyZ) (l.drop (bs * T)) = rowB keyZ (2 * bs) l := by
            rw [hrow]
            by_cases q : T = 2 * s
            · rw [q, Nat.sub_self, hK1]; simp only [blks, List.append_nil]
            · have hT1 : T = 2 * s + 1 := by omega
              rw [show T - 2 * s = 1 by omega, hT1, ← last_full keyZ bs l s (by omega)]; simp only [blks, List.append_nil, List.append_assoc]
          rw [a1]
          simp -implicitDefEqProofs only [RL0, RL1, RL2, RL3, RL4, RL5, RL6, RL7, RL8, RL9, chkW, ↓get_cons', ↓hget_cons', ↓hset_cons', St.gh, isNil, evalA, opTs, LOp.args, Nat.reduceBEq, renS, ren1, ren0, renB, only, sg, gmOf, wrN, buildCells, bsRows, Value.oneCell', setAt, eqCells, eqCell, vI, vB, vS, apartW, Nat.reduceEqDiff, Nat.reduceAdd, Nat.reduceSub, Nat.reduceMul, Nat.reduceLT, Nat.reduceLeDiff, Int.reduceEq, Int.reduceNe, Int.reduceLT, Int.reduceLE, reduceCtorEq, ↓reduceIte, ne_eq, eq_self, and_self, str_eq_iff, Int.toNat_natCast, cV, cR, c_set, List.length_set, e7, e8, e9, e6]
          exact ⟨2 * bs, by omega, by omega, LE.refl _ _⟩
    · have e4 : ((bs : Int) < (l.length : Int)) = False := eq_false (by omega)
      rw [rowB_end keyZ (by omega) (by omega)]
      simp -implicitDefEqProofs only [RL0, RL1, RL2, RL3, RL4, RL5, RL6, RL7, RL8, RL9, chkW, ↓get_cons', ↓hget_cons', ↓hset_cons', St.gh, isNil, evalA, opTs, LOp.args, Nat.reduceBEq, renS, ren1, ren0, renB, only, sg, gmOf, wrN, buildCells, bsRows, Value.oneCell', setAt, eqCells, eqCell, vI, vB, vS, apartW, Nat.reduceEqDiff, Nat.reduceAdd, Nat.reduceSub, Nat.reduceMul, Nat.reduceLT, Nat.reduceLeDiff, Int.reduceEq, Int.reduceNe, Int.reduceLT, Int.reduceLE, reduceCtorEq, ↓reduceIte, ne_eq, eq_self, and_self, str_eq_iff, Int.toNat_natCast, cV, cR, c_set, List.length_set, e4]
      refine RetOk.of [(1000, 1000)] [] ?_ ?_ rfl ?_ rfl rfl ?_
      all_goals simp [ML, args1, arg1, args0, lents1, lent1, lent0, lents0, lentB, rowsM, body0, only, sg, injB, apartB, keysOf, cur, resS, ↓get_cons', ↓hget_cons', Value.oneCell', eq_self, and_self, ne_eq, vI, rK_nil, Int.toNat_natCast, cV, cR, c_set, List.length_set]
end Go.Proofs.Ex
