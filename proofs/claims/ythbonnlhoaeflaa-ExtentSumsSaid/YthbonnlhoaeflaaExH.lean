import Derived.Test.YthbonnlhoaeflaaExF
set_option linter.unusedVariables false
set_option linter.unusedSimpArgs false
-- DEFS Int.toNat_natCast, cV, cR
namespace Go.Proofs.Ex
open Go.RowKit Go.Lib Go.Eng Go.Proofs Go.IntWalk
set_option maxRecDepth 100000
set_option linter.unusedVariables false
set_option maxHeartbeats 4000000
def hstep (sz : Nat) (x : Nat × List Z) (z : Z) : Nat × List Z :=
  (max x.1 (z.1 + z.2), if x.1 < min z.1 sz then x.2 ++ [(x.1, min z.1 sz - x.1)] else x.2)
def holesN (l : List Z) (sz : Nat) : List Z := ((l ++ [(1099511627776, 0)]).foldl (hstep sz) (0, [])).2
def holesL (l : List Z) (n : Int) : List Z := holesN (normL l) (cutI n)
theorem holes_spec (l : List Z) (n : Int) (hok : ∀ z ∈ l, okZ z) (hl : l.length ≤ 2 ^ 30) : Eng.Spec Try.prog 12 [] [] [.d (.sl 1 (rM cR l)), .d (.v (.int .i64 n))] [(1000, ⟨0, .arr 1 (rM cR (holesL l n))⟩)] (.view 1000 0 0 (holesL l n).length) := by
  obtain ⟨hn1, hn2⟩ := normL_ok l
  have hof0 : Eng.Spec Try.prog 36 [] [] [.d (.v (.int .i64 1099511627776)), .d (.v (.int .i64 0))] [] (.d (.v (cV (1099511627776, 0)))) := by
    have := of_spec 1099511627776 0; rwa [show cutI 1099511627776 = 1099511627776 by decide, show cutI 0 = 0 by decide] at this
  unfold holesL
  refine told_spec mixed f12_told f12_results f12_text rfl (by simp) rfl ?_
  simp only [initS, List.length_cons, List.length_nil, List.range, List.range.loop, List.getD_cons_zero, List.getD_cons_succ, List.cons_append, List.nil_append, Int.toNat_natCast, cV, cR]
  simp -implicitDefEqProofs only [RL0, RL1, RL2, RL3, RL4, RL5, RL6, RL7, RL8, RL9, chkW, ↓get_cons', ↓hget_cons', ↓hset_cons', St.gh, isNil, evalA, opTs, LOp.args, Nat.reduceBEq, renS, ren1, ren0, renB, only, sg, gmOf, wrN, buildCells, bsRows, Value.oneCell', setAt, eqCells, eqCell, vI, vB, vS, apartW, Nat.reduceEqDiff, Nat.reduceAdd, Nat.reduceSub, Nat.reduceMul, Nat.reduceLT, Nat.reduceLeDiff, Int.reduceEq, Int.reduceNe, Int.reduceLT, Int.reduceLE, reduceCtorEq, ↓reduceIte, ne_eq, eq_self, and_self, str_eq_iff]
  refine callL_of (cut_spec n) [] false [] [] ?_ ?_
  · refine CallOk.of ?_ ?_ rfl ?_ rfl rfl rfl rfl ?_ rfl ?_ rfl
    all_goals simp [ML, args1, arg1, args0, lents1, lent1, lent0, lents0, lentB, rowsM, body0, only, sg, injB, apartB, keysOf, cur, resS, ↓get_cons', ↓hget_cons', Value.oneCell', eq_self, and_self, ne_eq, vI, rK_nil, rK_len, rK_take, rM_len, rM_take, Int.toNat_natCast, cV, cR]
  simp -implicitDefEqProofs only [RL0, RL1, RL2, RL3, RL4, RL5, RL6, RL7, RL8, RL9, chkW, ↓get_cons', ↓hget_cons', ↓hset_cons', St.gh, isNil, evalA, opTs, LOp.args, Nat.reduceBEq, renS, ren1, ren0, renB, only, sg, gmOf, wrN, buildCells, bsRows, Value.oneCell', setAt, eqCells, eqCell, vI, vB, vS, apartW, Nat.reduceEqDiff, Nat.reduceAdd, Nat.reduceSub, Nat.reduceMul, Nat.reduceLT, Nat.reduceLeDiff, Int.reduceEq, Int.reduceNe, Int.reduceLT, Int.reduceLE, reduceCtorEq, ↓reduceIte, ne_eq, eq_self, and_self, str_eq_iff, Int.toNat_natCast, cV, cR]
  have hsz := cutI_le n
  generalize cutI n = sz at *
  refine callL_of (norm_spec l hok hl) [(1000, 13)] false [] [] ?_ ?_
  · refine CallOk.of ?_ ?_ rfl ?_ rfl rfl rfl rfl ?_ rfl ?_ rfl
    all_goals simp [ML, args1, arg1, args0, lents1, lent1, lent0, lents0, lentB, rowsM, body0, only, sg, injB, apartB, keysOf, cur, resS, ↓get_cons', ↓hget_cons', Value.oneCell', eq_self, and_self, ne_eq, vI, rK_nil, rK_len, rK_take, rM_len, rM_take, Int.toNat_natCast, cV, cR]
  simp -implicitDefEqProofs only [RL0, RL1, RL2, RL3, RL4, RL5, RL6, RL7, RL8, RL9, chkW, ↓get_cons', ↓hget_cons', ↓hset_cons', St.gh, isNil, evalA, opTs, LOp.args, Nat.reduceBEq, renS, ren1, ren0, renB, only, sg, gmOf, wrN, buildCells, bsRows, Value.oneCell', setAt, eqCells, eqCell, vI, vB, vS, apartW, Nat.reduceEqDiff, Nat.reduceAdd, Nat.reduceSub, Nat.reduceMul, Nat.reduceLT, Nat.reduceLeDiff, Int.reduceEq, Int.reduceNe, Int.reduceLT, Int.reduceLE, reduceCtorEq, ↓reduceIte, ne_eq, eq_self, and_self, str_eq_iff, Int.toNat_natCast, cV, cR]
  refine callL_of (hof0) [] false [] [] ?_ ?_
  · refine CallOk.of ?_ ?_ rfl ?_ rfl rfl rfl rfl ?_ rfl ?_ rfl
    all_goals simp [ML, args1, arg1, args0, lents1, lent1, lent0, lents0, lentB, rowsM, body0, only, sg, injB, apartB, keysOf, cur, resS, ↓get_cons', ↓hget_cons', Value.oneCell', eq_self, and_self, ne_eq, vI, rK_nil, rK_len, rK_take, rM_len, rM_take, Int.toNat_natCast, cV, cR, c_snoc]
  simp -implicitDefEqProofs only [RL0, RL1, RL2, RL3, RL4, RL5, RL6, RL7, RL8, RL9, chkW, ↓get_cons', ↓hget_cons', ↓hset_cons', St.gh, isNil, evalA, opTs, LOp.args, Nat.reduceBEq, renS, ren1, ren0, renB, only, sg, gmOf, wrN, buildCells, bsRows, Value.oneCell', setAt, eqCells, eqCell, vI, vB, vS, apartW, Nat.reduceEqDiff, Nat.reduceAdd, Nat.reduceSub, Nat.reduceMul, Nat.reduceLT, Nat.reduceLeDiff, Int.reduceEq, Int.reduceNe, Int.reduceLT, Int.reduceLE, reduceCtorEq, ↓reduceIte, ne_eq, eq_self, and_self, str_eq_iff, Int.toNat_natCast, cV, cR, c_snoc]
  refine ⟨by omega, by omega, ?_⟩
  have hm : ∀ x ∈ normL l ++ [(1099511627776, 0)], okE x := fun x hx => by
    rcases List.mem_append.1 hx with hx | hx
    · exact hn1 x hx
    · rw [List.mem_singleton.1 hx]; unfold okE; omega
  have hlen : (normL l ++ [((1099511627776 : Nat), (0 : Nat))]).length = (normL l).length + 1 := by simp
  unfold holesN
  rw [← hlen]
  generalize normL l ++ [((1099511627776 : Nat), (0 : Nat))] = s at *
  refine vc_loop (fun x : Nat × Nat × List Z => ⟨[(18, .d (.v (.int .i64 x.1))), (6, .d (.v (.int .i64 x.2.1))), (5, .view 505 0 0 x.2.2.length), (1, .d (.v (.int .i64 sz))), (16, .view 13 0 0 s.length), (17, .d (.v (.int .i64 s.length)))], [(505, ⟨0, .arr 1 (rM cR x.2.2)⟩), (13, ⟨0, .arr 1 (rM cR s)⟩)]⟩)
    (fun x => x.1 ≤ s.length ∧ (x.2.1, x.2.2) = (s.take x.1).foldl (hstep sz) (0, []) ∧ x.2.1 ≤ 1099511627776 ∧ x.2.2.length ≤ x.1) (fun x => s.length - x.1) (0, 0, []) ⟨by omega, rfl, by simp, by simp⟩ (LE.refl _ _) ?_
  rintro ⟨k, a, out⟩ ⟨g1, g2, g3, g4⟩
  simp only at g1 g2 g3 g4
  have e3 : IntKind.i64.wrap ((k : Int) + 1) = ((k + 1 : Nat) : Int) := by rw [i64_in _ (by omega)]; omega
  by_cases hk : k < s.length
  · have e1 : ((k : Int) < (s.length : Int)) = True := eq_true (by omega)
    have hz := hm _ (getD_mem (i := k) hk)
    have hstp : (s.take (k + 1)).foldl (hstep sz) (0, []) = hstep sz (a, out) (s.getD k default) := by
      rw [List.take_succ_eq_append_getElem (by omega), List.foldl_append, ← g2, List.getD_eq_getElem?_getD, List.getElem?_eq_getElem (by omega)]; rfl
    generalize hzz : s.getD k default = z at *
    obtain ⟨TO, hTO⟩ : ∃ TO : Nat, min z.1 sz = TO := ⟨_, rfl⟩
    obtain ⟨AT, hAT⟩ : ∃ AT : Nat, max a (z.1 + z.2) = AT := ⟨_, rfl⟩
    have hz2 : z.1 + z.2 ≤ 1099511627776 := hz
    have eTo : min (z.1 : Int) (sz : Int) = (TO : Int) := by omega
    have eAt : max (a : Int) ((z.1 + z.2 : Nat) : Int) = (AT : Int) := by omega
    have fin : ∀ o, hstep sz (a, out) z = (AT, o) → o.length ≤ k + 1 → ∃ y : Nat × Nat × List Z, (y.1 ≤ s.length ∧ (y.2.1, y.2.2) = (s.take y.1).foldl (hstep sz) (0, []) ∧ y.2.1 ≤ 1099511627776 ∧ y.2.2.length ≤ y.1) ∧ s.length - y.1 < s.length - k ∧
        Eng.LE [] ⟨[(18, .d (.v (.int .i64 (k + 1 : Nat)))), (6, .d (.v (.int .i64 AT))), (5, .view 505 0 0 o.length), (1, .d (.v (.int .i64 sz))), (16, .view 13 0 0 s.length), (17, .d (.v (.int .i64 s.length)))], [(505, ⟨0, .arr 1 (rM cR o)⟩), (13, ⟨0, .arr 1 (rM cR s)⟩)]⟩
          ⟨[(18, .d (.v (.int .i64 y.1))), (6, .d (.v (.int .i64 y.2.1))), (5, .view 505 0 0 y.2.2.length), (1, .d (.v (.int .i64 sz))), (16, .view 13 0 0 s.length), (17, .d (.v (.int .i64 s.length)))], [(505, ⟨0, .arr 1 (rM cR y.2.2)⟩), (13, ⟨0, .arr 1 (rM cR s)⟩)]⟩ := by
      intro o ho hlo
      exact ⟨(k + 1, AT, o), ⟨by simp only; omega, by rw [hstp]; exact ho.symm, by simp only; omega, hlo⟩, by simp only; omega, LE.refl _ _⟩
    simp -implicitDefEqProofs only [RL0, RL1, RL2, RL3, RL4, RL5, RL6, RL7, RL8, RL9, chkW, ↓get_cons', ↓hget_cons', ↓hset_cons', St.gh, isNil, evalA, opTs, LOp.args, Nat.reduceBEq, renS, ren1, ren0, renB, only, sg, gmOf, wrN, buildCells, bsRows, Value.oneCell', setAt, eqCells, eqCell, vI, vB, vS, apartW, Nat.reduceEqDiff, Nat.reduceAdd, Nat.reduceSub, Nat.reduceMul, Nat.reduceLT, Nat.reduceLeDiff, Int.reduceEq, Int.reduceNe, Int.reduceLT, Int.reduceLE, reduceCtorEq, ↓reduceIte, ne_eq, eq_self, and_self, str_eq_iff, Int.toNat_natCast, cV, cR, e1, hzz, e3]
    refine ⟨by omega, by omega, ?_⟩
    refine callL_of (at_spec z hz.okZ) [] false [] [] ?_ ?_
    · refine CallOk.of ?_ ?_ rfl ?_ rfl rfl rfl rfl ?_ rfl ?_ rfl
      all_goals simp [ML, args1, arg1, args0, lents1, lent1, lent0, lents0, lentB, rowsM, body0, only, sg, injB, apartB, keysOf, cur, resS, ↓get_cons', ↓hget_cons', Value.oneCell', eq_self, and_self, ne_eq, vI, rK_nil, rK_len, rK_take, rM_len, rM_take, Int.toNat_natCast, cV, cR, eTo, eAt, e3]
    simp -implicitDefEqProofs only [RL0, RL1, RL2, RL3, RL4, RL5, RL6, RL7, RL8, RL9, chkW, ↓get_cons', ↓hget_cons', ↓hset_cons', St.gh, isNil, evalA, opTs, LOp.args, Nat.reduceBEq, renS, ren1, ren0, renB, only, sg, gmOf, wrN, buildCells, bsRows, Value.oneCell', setAt, eqCells, eqCell, vI, vB, vS, apartW, Nat.reduceEqDiff, Nat.reduceAdd, Nat.reduceSub, Nat.reduceMul, Nat.reduceLT, Nat.reduceLeDiff, Int.reduceEq, Int.reduceNe, Int.reduceLT, Int.reduceLE, reduceCtorEq, ↓reduceIte, ne_eq, eq_self, and_self, str_eq_iff, Int.toNat_natCast, cV, cR, eTo, eAt, e3]
    refine ⟨fun c1 => ?_, fun c1 => ?_⟩
    · have c1' : a < TO := by omega
      have eS : IntKind.i64.wrap ((TO : Int) - (a : Int)) = ((TO - a : Nat) : Int) := by rw [i64_in _ (by omega)]; omega
      have hof : Eng.Spec Try.prog 36 [] [] [.d (.v (.int .i64 a)), .d (.v (.int .i64 (TO - a : Nat)))] [] (.d (.v (cV (a, TO - a)))) := by
        have := of_spec a ((TO - a : Nat) : Int); rwa [cutI_nat a g3, cutI_nat (TO - a) (by omega)] at this
      simp -implicitDefEqProofs only [RL0, RL1, RL2, RL3, RL4, RL5, RL6, RL7, RL8, RL9, chkW, ↓get_cons', ↓hget_cons', ↓hset_cons', St.gh, isNil, evalA, opTs, LOp.args, Nat.reduceBEq, renS, ren1, ren0, renB, only, sg, gmOf, wrN, buildCells, bsRows, Value.oneCell', setAt, eqCells, eqCell, vI, vB, vS, apartW, Nat.reduceEqDiff, Nat.reduceAdd, Nat.reduceSub, Nat.reduceMul, Nat.reduceLT, Nat.reduceLeDiff, Int.reduceEq, Int.reduceNe, Int.reduceLT, Int.reduceLE, reduceCtorEq, ↓reduceIte, ne_eq, eq_self, and_self, str_eq_iff, Int.toNat_natCast, cV, cR, eS]
      refine callL_of (hof) [] false [] [] ?_ ?_
      · refine CallOk.of ?_ ?_ rfl ?_ rfl rfl rfl rfl ?_ rfl ?_ rfl
        all_goals simp [ML, args1, arg1, args0, lents1, lent1, lent0, lents0, lentB, rowsM, body0, only, sg, injB, apartB, keysOf, cur, resS, ↓get_cons', ↓hget_cons', Value.oneCell', eq_self, and_self, ne_eq, vI, rK_nil, rK_len, rK_take, rM_len, rM_take, Int.toNat_natCast, cV, cR, eTo, eAt, e3, eS, c_snoc]
      simp -implicitDefEqProofs only [RL0, RL1, RL2, RL3, RL4, RL5, RL6, RL7, RL8, RL9, chkW, ↓get_cons', ↓hget_cons', ↓hset_cons', St.gh, isNil, evalA, opTs, LOp.args, Nat.reduceBEq, renS, ren1, ren0, renB, only, sg, gmOf, wrN, buildCells, bsRows, Value.oneCell', setAt, eqCells, eqCell, vI, vB, vS, apartW, Nat.reduceEqDiff, Nat.reduceAdd, Nat.reduceSub, Nat.reduceMul, Nat.reduceLT, Nat.reduceLeDiff, Int.reduceEq, Int.reduceNe, Int.reduceLT, Int.reduceLE, reduceCtorEq, ↓reduceIte, ne_eq, eq_self, and_self, str_eq_iff, Int.toNat_natCast, cV, cR, eTo, eAt, e3, eS, c_snoc]
      refine ⟨by omega, by omega, ?_⟩
      refine callL_of (end_spec z hz.okZ) [] false [] [] ?_ ?_
      · refine CallOk.of ?_ ?_ rfl ?_ rfl rfl rfl rfl ?_ rfl ?_ rfl
        all_goals simp [ML, args1, arg1, args0, lents1, lent1, lent0, lents0, lentB, rowsM, body0, only, sg, injB, apartB, keysOf, cur, resS, ↓get_cons', ↓hget_cons', Value.oneCell', eq_self, and_self, ne_eq, vI, rK_nil, rK_len, rK_take, rM_len, rM_take, Int.toNat_natCast, cV, cR, eTo, eAt, e3, eS, c_snoc]
      simp -implicitDefEqProofs only [RL0, RL1, RL2, RL3, RL4, RL5, RL6, RL7, RL8, RL9, chkW, ↓get_cons', ↓hget_cons', ↓hset_cons', St.gh, isNil, evalA, opTs, LOp.args, Nat.reduceBEq, renS, ren1, ren0, renB, only, sg, gmOf, wrN, buildCells, bsRows, Value.oneCell', setAt, eqCells, eqCell, vI, vB, vS, apartW, Nat.reduceEqDiff, Nat.reduceAdd, Nat.reduceSub, Nat.reduceMul, Nat.reduceLT, Nat.reduceLeDiff, Int.reduceEq, Int.reduceNe, Int.reduceLT, Int.reduceLE, reduceCtorEq, ↓reduceIte, ne_eq, eq_self, and_self, str_eq_iff, Int.toNat_natCast, cV, cR, eTo, eAt, e3, eS, c_snoc]
      have f2 := fin (out ++ [(a, TO - a)]) (by unfold hstep; simp only; rw [hTO, hAT, if_pos c1']) (by simp; omega)
      rw [List.length_append] at f2
      exact f2
    · simp -implicitDefEqProofs only [RL0, RL1, RL2, RL3, RL4, RL5, RL6, RL7, RL8, RL9, chkW, ↓get_cons', ↓hget_cons', ↓hset_cons', St.gh, isNil, evalA, opTs, LOp.args, Nat.reduceBEq, renS, ren1, ren0, renB, only, sg, gmOf, wrN, buildCells, bsRows, Value.oneCell', setAt, eqCells, eqCell, vI, vB, vS, apartW, Nat.reduceEqDiff, Nat.reduceAdd, Nat.reduceSub, Nat.reduceMul, Nat.reduceLT, Nat.reduceLeDiff, Int.reduceEq, Int.reduceNe, Int.reduceLT, Int.reduceLE, reduceCtorEq, ↓reduceIte, ne_eq, eq_self, and_self, str_eq_iff, Int.toNat_natCast, cV, cR]
      refine callL_of (end_spec z hz.okZ) [] false [] [] ?_ ?_
      · refine CallOk.of ?_ ?_ rfl ?_ rfl rfl rfl rfl ?_ rfl ?_ rfl
        all_goals simp [ML, args1, arg1, args0, lents1, lent1, lent0, lents0, lentB, rowsM, body0, only, sg, injB, apartB, keysOf, cur, resS, ↓get_cons', ↓hget_cons', Value.oneCell', eq_self, and_self, ne_eq, vI, rK_nil, rK_len, rK_take, rM_len, rM_take, Int.toNat_natCast, cV, cR, eTo, eAt, e3]
      simp -implicitDefEqProofs only [RL0, RL1, RL2, RL3, RL4, RL5, RL6, RL7, RL8, RL9, chkW, ↓get_cons', ↓hget_cons', ↓hset_cons', St.gh, isNil, evalA, opTs, LOp.args, Nat.reduceBEq, renS, ren1, ren0, renB, only, sg, gmOf, wrN, buildCells, bsRows, Value.oneCell', setAt, eqCells, eqCell, vI, vB, vS, apartW, Nat.reduceEqDiff, Nat.reduceAdd, Nat.reduceSub, Nat.reduceMul, Nat.reduceLT, Nat.reduceLeDiff, Int.reduceEq, Int.reduceNe, Int.reduceLT, Int.reduceLE, reduceCtorEq, ↓reduceIte, ne_eq, eq_self, and_self, str_eq_iff, Int.toNat_natCast, cV, cR, eTo, eAt, e3]
      exact fin out (by unfold hstep; simp only; rw [hTO, hAT, if_neg (by omega)]) (by omega)
  · have hk' : k = s.length := by omega
    subst hk'
    have e1 : ((s.length : Int) < (s.length : Int)) = False := eq_false (by omega)
    rw [List.take_of_length_le (by omega)] at g2
    rw [← g2]
    simp -implicitDefEqProofs only [RL0, RL1, RL2, RL3, RL4, RL5, RL6, RL7, RL8, RL9, chkW, ↓get_cons', ↓hget_cons', ↓hset_cons', St.gh, isNil, evalA, opTs, LOp.args, Nat.reduceBEq, renS, ren1, ren0, renB, only, sg, gmOf, wrN, buildCells, bsRows, Value.oneCell', setAt, eqCells, eqCell, vI, vB, vS, apartW, Nat.reduceEqDiff, Nat.reduceAdd, Nat.reduceSub, Nat.reduceMul, Nat.reduceLT, Nat.reduceLeDiff, Int.reduceEq, Int.reduceNe, Int.reduceLT, Int.reduceLE, reduceCtorEq, ↓reduceIte, ne_eq, eq_self, and_self, str_eq_iff, Int.toNat_natCast, cV, cR, e1]
    refine RetOk.of [(1000, 505)] [] ?_ ?_ rfl ?_ rfl rfl ?_
    all_goals simp [ML, args1, arg1, args0, lents1, lent1, lent0, lents0, lentB, rowsM, body0, only, sg, injB, apartB, keysOf, cur, resS, ↓get_cons', ↓hget_cons', Value.oneCell', eq_self, and_self, ne_eq, vI, rK_nil, Int.toNat_natCast, cV, cR]
end Go.Proofs.Ex
