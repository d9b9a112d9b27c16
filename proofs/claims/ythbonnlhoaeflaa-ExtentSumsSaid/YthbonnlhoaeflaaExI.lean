import Derived.Test.YthbonnlhoaeflaaExF
set_option linter.unusedVariables false
set_option linter.unusedSimpArgs false
-- DEFS Int.toNat_natCast, cV, cR
namespace Go.Proofs.Ex
open Go.RowKit Go.Lib Go.Eng Go.Proofs Go.IntWalk
set_option maxRecDepth 100000
set_option linter.unusedVariables false
set_option maxHeartbeats 4000000
def mstep (a e : Nat) (out : List Z) (z : Z) : List Z :=
  if max z.1 a < min (z.1 + z.2) e then out ++ [(max z.1 a, min (z.1 + z.2) e - max z.1 a)] else out
def meetN (l : List Z) (a n : Nat) : List Z := l.foldl (mstep a (a + n)) []
def meetL (l : List Z) (a n : Int) : List Z := meetN (normL l) (cutI a) (cutI n)
theorem meet_spec (l : List Z) (a n : Int) (hok : ∀ z ∈ l, okZ z) (hl : l.length ≤ 2 ^ 30) : Eng.Spec Try.prog 17 [] [] [.d (.sl 1 (rM cR l)), .d (.v (.int .i64 a)), .d (.v (.int .i64 n))] [(1000, ⟨0, .arr 1 (rM cR (meetL l a n))⟩)] (.view 1000 0 0 (meetL l a n).length) := by
  obtain ⟨hn1, hn2⟩ := normL_ok l
  unfold meetL meetN
  have ha := cutI_le a
  have hb := cutI_le n
  refine told_spec mixed f17_told f17_results f17_text rfl (by simp) rfl ?_
  simp only [initS, List.length_cons, List.length_nil, List.range, List.range.loop, List.getD_cons_zero, List.getD_cons_succ, List.cons_append, List.nil_append, Int.toNat_natCast, cV, cR]
  simp -implicitDefEqProofs only [RL0, RL1, RL2, RL3, RL4, RL5, RL6, RL7, RL8, RL9, chkW, ↓get_cons', ↓hget_cons', ↓hset_cons', St.gh, isNil, evalA, opTs, LOp.args, Nat.reduceBEq, renS, ren1, ren0, renB, only, sg, gmOf, wrN, buildCells, bsRows, Value.oneCell', setAt, eqCells, eqCell, vI, vB, vS, apartW, Nat.reduceEqDiff, Nat.reduceAdd, Nat.reduceSub, Nat.reduceMul, Nat.reduceLT, Nat.reduceLeDiff, Int.reduceEq, Int.reduceNe, Int.reduceLT, Int.reduceLE, reduceCtorEq, ↓reduceIte, ne_eq, eq_self, and_self, str_eq_iff]
  refine callL_of (of_spec a n) [] false [] [] ?_ ?_
  · refine CallOk.of ?_ ?_ rfl ?_ rfl rfl rfl rfl ?_ rfl ?_ rfl
    all_goals simp [ML, args1, arg1, args0, lents1, lent1, lent0, lents0, lentB, rowsM, body0, only, sg, injB, apartB, keysOf, cur, resS, ↓get_cons', ↓hget_cons', Value.oneCell', eq_self, and_self, ne_eq, vI, rK_nil, rK_len, rK_take, rM_len, rM_take, Int.toNat_natCast, cV, cR]
  simp -implicitDefEqProofs only [RL0, RL1, RL2, RL3, RL4, RL5, RL6, RL7, RL8, RL9, chkW, ↓get_cons', ↓hget_cons', ↓hset_cons', St.gh, isNil, evalA, opTs, LOp.args, Nat.reduceBEq, renS, ren1, ren0, renB, only, sg, gmOf, wrN, buildCells, bsRows, Value.oneCell', setAt, eqCells, eqCell, vI, vB, vS, apartW, Nat.reduceEqDiff, Nat.reduceAdd, Nat.reduceSub, Nat.reduceMul, Nat.reduceLT, Nat.reduceLeDiff, Int.reduceEq, Int.reduceNe, Int.reduceLT, Int.reduceLE, reduceCtorEq, ↓reduceIte, ne_eq, eq_self, and_self, str_eq_iff, Int.toNat_natCast, cV, cR]
  have hA2 := ha
  have hN2 := hb
  generalize cutI a = A at *
  generalize cutI n = N at *
  refine callL_of (norm_spec l hok hl) [(1000, 17)] false [] [] ?_ ?_
  · refine CallOk.of ?_ ?_ rfl ?_ rfl rfl rfl rfl ?_ rfl ?_ rfl
    all_goals simp [ML, args1, arg1, args0, lents1, lent1, lent0, lents0, lentB, rowsM, body0, only, sg, injB, apartB, keysOf, cur, resS, ↓get_cons', ↓hget_cons', Value.oneCell', eq_self, and_self, ne_eq, vI, rK_nil, rK_len, rK_take, rM_len, rM_take, Int.toNat_natCast, cV, cR]
  simp -implicitDefEqProofs only [RL0, RL1, RL2, RL3, RL4, RL5, RL6, RL7, RL8, RL9, chkW, ↓get_cons', ↓hget_cons', ↓hset_cons', St.gh, isNil, evalA, opTs, LOp.args, Nat.reduceBEq, renS, ren1, ren0, renB, only, sg, gmOf, wrN, buildCells, bsRows, Value.oneCell', setAt, eqCells, eqCell, vI, vB, vS, apartW, Nat.reduceEqDiff, Nat.reduceAdd, Nat.reduceSub, Nat.reduceMul, Nat.reduceLT, Nat.reduceLeDiff, Int.reduceEq, Int.reduceNe, Int.reduceLT, Int.reduceLE, reduceCtorEq, ↓reduceIte, ne_eq, eq_self, and_self, str_eq_iff, Int.toNat_natCast, cV, cR]
  generalize normL l = s at *
  have hat := at_spec (A, N) ⟨hA2, hN2⟩
  have hen := end_spec (A, N) ⟨hA2, hN2⟩
  refine vc_loop (fun x : Nat × List Z => ⟨[(19, .d (.v (.int .i64 x.1))), (8, .view 508 0 0 x.2.length), (7, .d (.v (.complex .f64 (fl A) (fl N)))), (17, .view 17 0 0 s.length), (18, .d (.v (.int .i64 s.length)))], [(508, ⟨0, .arr 1 (rM cR x.2)⟩), (17, ⟨0, .arr 1 (rM cR s)⟩)]⟩)
    (fun x => x.1 ≤ s.length ∧ x.2 = (s.take x.1).foldl (mstep A (A + N)) [] ∧ x.2.length ≤ x.1) (fun x => s.length - x.1) (0, []) ⟨by omega, rfl, by simp⟩ (LE.refl _ _) ?_
  rintro ⟨k, out⟩ ⟨g1, g2, g4⟩
  simp only at g1 g2 g4
  have e3 : IntKind.i64.wrap ((k : Int) + 1) = ((k + 1 : Nat) : Int) := by rw [i64_in _ (by omega)]; omega
  by_cases hk : k < s.length
  · have e1 : ((k : Int) < (s.length : Int)) = True := eq_true (by omega)
    have hz := hn1 _ (getD_mem (i := k) hk)
    have hstp : (s.take (k + 1)).foldl (mstep A (A + N)) [] = mstep A (A + N) out (s.getD k default) := by
      rw [List.take_succ_eq_append_getElem (by omega), List.foldl_append, ← g2, List.getD_eq_getElem?_getD, List.getElem?_eq_getElem (by omega)]; rfl
    generalize hzz : s.getD k default = z at *
    obtain ⟨LO, hLO⟩ : ∃ LO : Nat, max z.1 A = LO := ⟨_, rfl⟩
    obtain ⟨HI, hHI⟩ : ∃ HI : Nat, min (z.1 + z.2) (A + N) = HI := ⟨_, rfl⟩
    have hz2 : z.1 + z.2 ≤ 1099511627776 := hz
    have eLo : max (z.1 : Int) (A : Int) = (LO : Int) := by omega
    have eHi : min ((z.1 + z.2 : Nat) : Int) ((A + N : Nat) : Int) = (HI : Int) := by omega
    have hms : mstep A (A + N) out z = if LO < HI then out ++ [(LO, HI - LO)] else out := by unfold mstep; rw [hLO, hHI]
    have fin : ∀ o, mstep A (A + N) out z = o → o.length ≤ k + 1 → ∃ y : Nat × List Z, (y.1 ≤ s.length ∧ y.2 = (s.take y.1).foldl (mstep A (A + N)) [] ∧ y.2.length ≤ y.1) ∧ s.length - y.1 < s.length - k ∧
        Eng.LE [] ⟨[(19, .d (.v (.int .i64 (k + 1 : Nat)))), (8, .view 508 0 0 o.length), (7, .d (.v (.complex .f64 (fl A) (fl N)))), (17, .view 17 0 0 s.length), (18, .d (.v (.int .i64 s.length)))], [(508, ⟨0, .arr 1 (rM cR o)⟩), (17, ⟨0, .arr 1 (rM cR s)⟩)]⟩
          ⟨[(19, .d (.v (.int .i64 y.1))), (8, .view 508 0 0 y.2.length), (7, .d (.v (.complex .f64 (fl A) (fl N)))), (17, .view 17 0 0 s.length), (18, .d (.v (.int .i64 s.length)))], [(508, ⟨0, .arr 1 (rM cR y.2)⟩), (17, ⟨0, .arr 1 (rM cR s)⟩)]⟩ := by
      intro o ho hlo
      exact ⟨(k + 1, o), ⟨by simp only; omega, by rw [hstp]; exact ho.symm, hlo⟩, by simp only; omega, LE.refl _ _⟩
    simp -implicitDefEqProofs only [RL0, RL1, RL2, RL3, RL4, RL5, RL6, RL7, RL8, RL9, chkW, ↓get_cons', ↓hget_cons', ↓hset_cons', St.gh, isNil, evalA, opTs, LOp.args, Nat.reduceBEq, renS, ren1, ren0, renB, only, sg, gmOf, wrN, buildCells, bsRows, Value.oneCell', setAt, eqCells, eqCell, vI, vB, vS, apartW, Nat.reduceEqDiff, Nat.reduceAdd, Nat.reduceSub, Nat.reduceMul, Nat.reduceLT, Nat.reduceLeDiff, Int.reduceEq, Int.reduceNe, Int.reduceLT, Int.reduceLE, reduceCtorEq, ↓reduceIte, ne_eq, eq_self, and_self, str_eq_iff, Int.toNat_natCast, cV, cR, e1, hzz, e3]
    refine ⟨by omega, by omega, ?_⟩
    refine callL_of (at_spec z hz.okZ) [] false [] [] ?_ ?_
    · refine CallOk.of ?_ ?_ rfl ?_ rfl rfl rfl rfl ?_ rfl ?_ rfl
      all_goals simp [ML, args1, arg1, args0, lents1, lent1, lent0, lents0, lentB, rowsM, body0, only, sg, injB, apartB, keysOf, cur, resS, ↓get_cons', ↓hget_cons', Value.oneCell', eq_self, and_self, ne_eq, vI, rK_nil, rK_len, rK_take, rM_len, rM_take, Int.toNat_natCast, cV, cR, eLo, eHi, e3]
    simp -implicitDefEqProofs only [RL0, RL1, RL2, RL3, RL4, RL5, RL6, RL7, RL8, RL9, chkW, ↓get_cons', ↓hget_cons', ↓hset_cons', St.gh, isNil, evalA, opTs, LOp.args, Nat.reduceBEq, renS, ren1, ren0, renB, only, sg, gmOf, wrN, buildCells, bsRows, Value.oneCell', setAt, eqCells, eqCell, vI, vB, vS, apartW, Nat.reduceEqDiff, Nat.reduceAdd, Nat.reduceSub, Nat.reduceMul, Nat.reduceLT, Nat.reduceLeDiff, Int.reduceEq, Int.reduceNe, Int.reduceLT, Int.reduceLE, reduceCtorEq, ↓reduceIte, ne_eq, eq_self, and_self, str_eq_iff, Int.toNat_natCast, cV, cR, eLo, eHi, e3]
    refine callL_of (hat) [] false [] [] ?_ ?_
    · refine CallOk.of ?_ ?_ rfl ?_ rfl rfl rfl rfl ?_ rfl ?_ rfl
      all_goals simp [ML, args1, arg1, args0, lents1, lent1, lent0, lents0, lentB, rowsM, body0, only, sg, injB, apartB, keysOf, cur, resS, ↓get_cons', ↓hget_cons', Value.oneCell', eq_self, and_self, ne_eq, vI, rK_nil, rK_len, rK_take, rM_len, rM_take, Int.toNat_natCast, cV, cR, eLo, eHi, e3]
    simp -implicitDefEqProofs only [RL0, RL1, RL2, RL3, RL4, RL5, RL6, RL7, RL8, RL9, chkW, ↓get_cons', ↓hget_cons', ↓hset_cons', St.gh, isNil, evalA, opTs, LOp.args, Nat.reduceBEq, renS, ren1, ren0, renB, only, sg, gmOf, wrN, buildCells, bsRows, Value.oneCell', setAt, eqCells, eqCell, vI, vB, vS, apartW, Nat.reduceEqDiff, Nat.reduceAdd, Nat.reduceSub, Nat.reduceMul, Nat.reduceLT, Nat.reduceLeDiff, Int.reduceEq, Int.reduceNe, Int.reduceLT, Int.reduceLE, reduceCtorEq, ↓reduceIte, ne_eq, eq_self, and_self, str_eq_iff, Int.toNat_natCast, cV, cR, eLo, eHi, e3]
    refine callL_of (end_spec z hz.okZ) [] false [] [] ?_ ?_
    · refine CallOk.of ?_ ?_ rfl ?_ rfl rfl rfl rfl ?_ rfl ?_ rfl
      all_goals simp [ML, args1, arg1, args0, lents1, lent1, lent0, lents0, lentB, rowsM, body0, only, sg, injB, apartB, keysOf, cur, resS, ↓get_cons', ↓hget_cons', Value.oneCell', eq_self, and_self, ne_eq, vI, rK_nil, rK_len, rK_take, rM_len, rM_take, Int.toNat_natCast, cV, cR, eLo, eHi, e3]
    simp -implicitDefEqProofs only [RL0, RL1, RL2, RL3, RL4, RL5, RL6, RL7, RL8, RL9, chkW, ↓get_cons', ↓hget_cons', ↓hset_cons', St.gh, isNil, evalA, opTs, LOp.args, Nat.reduceBEq, renS, ren1, ren0, renB, only, sg, gmOf, wrN, buildCells, bsRows, Value.oneCell', setAt, eqCells, eqCell, vI, vB, vS, apartW, Nat.reduceEqDiff, Nat.reduceAdd, Nat.reduceSub, Nat.reduceMul, Nat.reduceLT, Nat.reduceLeDiff, Int.reduceEq, Int.reduceNe, Int.reduceLT, Int.reduceLE, reduceCtorEq, ↓reduceIte, ne_eq, eq_self, and_self, str_eq_iff, Int.toNat_natCast, cV, cR, eLo, eHi, e3]
    refine callL_of (hen) [] false [] [] ?_ ?_
    · refine CallOk.of ?_ ?_ rfl ?_ rfl rfl rfl rfl ?_ rfl ?_ rfl
      all_goals simp [ML, args1, arg1, args0, lents1, lent1, lent0, lents0, lentB, rowsM, body0, only, sg, injB, apartB, keysOf, cur, resS, ↓get_cons', ↓hget_cons', Value.oneCell', eq_self, and_self, ne_eq, vI, rK_nil, rK_len, rK_take, rM_len, rM_take, Int.toNat_natCast, cV, cR, eLo, eHi, e3]
    simp -implicitDefEqProofs only [RL0, RL1, RL2, RL3, RL4, RL5, RL6, RL7, RL8, RL9, chkW, ↓get_cons', ↓hget_cons', ↓hset_cons', St.gh, isNil, evalA, opTs, LOp.args, Nat.reduceBEq, renS, ren1, ren0, renB, only, sg, gmOf, wrN, buildCells, bsRows, Value.oneCell', setAt, eqCells, eqCell, vI, vB, vS, apartW, Nat.reduceEqDiff, Nat.reduceAdd, Nat.reduceSub, Nat.reduceMul, Nat.reduceLT, Nat.reduceLeDiff, Int.reduceEq, Int.reduceNe, Int.reduceLT, Int.reduceLE, reduceCtorEq, ↓reduceIte, ne_eq, eq_self, and_self, str_eq_iff, Int.toNat_natCast, cV, cR, eLo, eHi, e3]
    refine ⟨fun c1 => ?_, fun c1 => ?_⟩
    · have c1' : LO < HI := by omega
      have eS : IntKind.i64.wrap ((HI : Int) - (LO : Int)) = ((HI - LO : Nat) : Int) := by rw [i64_in _ (by omega)]; omega
      have hof : Eng.Spec Try.prog 36 [] [] [.d (.v (.int .i64 LO)), .d (.v (.int .i64 (HI - LO : Nat)))] [] (.d (.v (cV (LO, HI - LO)))) := by
        have := of_spec LO ((HI - LO : Nat) : Int); rwa [cutI_nat LO (by omega), cutI_nat (HI - LO) (by omega)] at this
      simp -implicitDefEqProofs only [RL0, RL1, RL2, RL3, RL4, RL5, RL6, RL7, RL8, RL9, chkW, ↓get_cons', ↓hget_cons', ↓hset_cons', St.gh, isNil, evalA, opTs, LOp.args, Nat.reduceBEq, renS, ren1, ren0, renB, only, sg, gmOf, wrN, buildCells, bsRows, Value.oneCell', setAt, eqCells, eqCell, vI, vB, vS, apartW, Nat.reduceEqDiff, Nat.reduceAdd, Nat.reduceSub, Nat.reduceMul, Nat.reduceLT, Nat.reduceLeDiff, Int.reduceEq, Int.reduceNe, Int.reduceLT, Int.reduceLE, reduceCtorEq, ↓reduceIte, ne_eq, eq_self, and_self, str_eq_iff, Int.toNat_natCast, cV, cR, eS]
      refine callL_of (hof) [] false [] [] ?_ ?_
      · refine CallOk.of ?_ ?_ rfl ?_ rfl rfl rfl rfl ?_ rfl ?_ rfl
        all_goals simp [ML, args1, arg1, args0, lents1, lent1, lent0, lents0, lentB, rowsM, body0, only, sg, injB, apartB, keysOf, cur, resS, ↓get_cons', ↓hget_cons', Value.oneCell', eq_self, and_self, ne_eq, vI, rK_nil, rK_len, rK_take, rM_len, rM_take, Int.toNat_natCast, cV, cR, eLo, eHi, e3, eS, c_snoc]
      simp -implicitDefEqProofs only [RL0, RL1, RL2, RL3, RL4, RL5, RL6, RL7, RL8, RL9, chkW, ↓get_cons', ↓hget_cons', ↓hset_cons', St.gh, isNil, evalA, opTs, LOp.args, Nat.reduceBEq, renS, ren1, ren0, renB, only, sg, gmOf, wrN, buildCells, bsRows, Value.oneCell', setAt, eqCells, eqCell, vI, vB, vS, apartW, Nat.reduceEqDiff, Nat.reduceAdd, Nat.reduceSub, Nat.reduceMul, Nat.reduceLT, Nat.reduceLeDiff, Int.reduceEq, Int.reduceNe, Int.reduceLT, Int.reduceLE, reduceCtorEq, ↓reduceIte, ne_eq, eq_self, and_self, str_eq_iff, Int.toNat_natCast, cV, cR, eLo, eHi, e3, eS, c_snoc]
      have f2 := fin _ (by rw [hms, if_pos c1']) (by simp; omega)
      rw [List.length_append] at f2
      exact ⟨by omega, by omega, f2⟩
    · have f2 := fin _ (by rw [hms, if_neg (by omega)]) (by omega)
      exact f2
  · have hk' : k = s.length := by omega
    subst hk'
    have e1 : ((s.length : Int) < (s.length : Int)) = False := eq_false (by omega)
    rw [List.take_of_length_le (by omega)] at g2
    rw [← g2]
    simp -implicitDefEqProofs only [RL0, RL1, RL2, RL3, RL4, RL5, RL6, RL7, RL8, RL9, chkW, ↓get_cons', ↓hget_cons', ↓hset_cons', St.gh, isNil, evalA, opTs, LOp.args, Nat.reduceBEq, renS, ren1, ren0, renB, only, sg, gmOf, wrN, buildCells, bsRows, Value.oneCell', setAt, eqCells, eqCell, vI, vB, vS, apartW, Nat.reduceEqDiff, Nat.reduceAdd, Nat.reduceSub, Nat.reduceMul, Nat.reduceLT, Nat.reduceLeDiff, Int.reduceEq, Int.reduceNe, Int.reduceLT, Int.reduceLE, reduceCtorEq, ↓reduceIte, ne_eq, eq_self, and_self, str_eq_iff, Int.toNat_natCast, cV, cR, e1]
    refine RetOk.of [(1000, 508)] [] ?_ ?_ rfl ?_ rfl rfl ?_
    all_goals simp [ML, args1, arg1, args0, lents1, lent1, lent0, lents0, lentB, rowsM, body0, only, sg, injB, apartB, keysOf, cur, resS, ↓get_cons', ↓hget_cons', Value.oneCell', eq_self, and_self, ne_eq, vI, rK_nil, Int.toNat_natCast, cV, cR]
end Go.Proofs.Ex
