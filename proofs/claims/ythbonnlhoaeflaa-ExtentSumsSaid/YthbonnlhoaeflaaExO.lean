import Derived.Test.YthbonnlhoaeflaaExN
set_option linter.unusedVariables false
set_option linter.unusedSimpArgs false
-- DEFS Int.toNat_natCast, cV, cR
namespace Go.Proofs.Ex
open Go.RowKit Go.Lib Go.Eng Go.Proofs Go.IntWalk
set_option maxRecDepth 100000
set_option linter.unusedVariables false
set_option maxHeartbeats 400000
theorem hol_len (sz : Nat) : ∀ (l : List Z) (a : Nat), (hol sz a l).length ≤ l.length + 1
  | [], a => by simp only [hol]; split <;> simp
  | z :: l, a => by
    have := hol_len sz l (max a (z.1 + z.2))
    simp only [hol, List.length_append, List.length_cons]
    split <;> simp only [List.length_cons, List.length_nil] <;> omega
def R1 : List Z := [(0, 300)]
theorem foldR : ([[.v (.complex .f64 0 4643985272004935680)]] : List (List D)) = rM cR R1 := by
  simp only [R1, rM, cR, cV, List.map_cons, List.map_nil, j0, j300]
theorem lR1 : R1.length = 1 := rfl
theorem tR1 : List.take 1 R1 = R1 := rfl
theorem sums_spec (l : List Int) (hl : l.length ≤ 2 ^ 50) : Eng.Spec Try.prog 5 [] [] [.d (.sl 1 (rK .i64 l))] [] (.d (.v (.bool true))) := by
  obtain ⟨a1, a2⟩ := row_facts l
  refine told_spec mixed f5_told f5_results f5_text rfl (by simp) rfl ?_
  simp only [initS, List.length_cons, List.length_nil, List.range, List.range.loop, List.getD_cons_zero, List.getD_cons_succ, List.cons_append, List.nil_append, Int.toNat_natCast, cV, cR]
  simp -implicitDefEqProofs only [RL0, RL1, RL2, RL3, RL4, RL5, RL6, RL7, RL8, RL9, chkW, ↓get_cons', ↓hget_cons', ↓hset_cons', St.gh, isNil, evalA, opTs, LOp.args, Nat.reduceBEq, renS, ren1, ren0, renB, only, sg, gmOf, wrN, buildCells, bsRows, Value.oneCell', setAt, eqCells, eqCell, vI, vB, vS, apartW, Nat.reduceEqDiff, Nat.reduceAdd, Nat.reduceSub, Nat.reduceMul, Nat.reduceLT, Nat.reduceLeDiff, Int.reduceEq, Int.reduceNe, Int.reduceLT, Int.reduceLE, reduceCtorEq, ↓reduceIte, ne_eq, eq_self, and_self, str_eq_iff]
  refine callL_of (row_spec l hl) [(1000, 10)] false [] [] ?_ ?_
  · refine CallOk.of ?_ ?_ rfl ?_ rfl rfl rfl rfl ?_ rfl ?_ rfl
    all_goals simp [ML, args1, arg1, args0, lents1, lent1, lent0, lents0, lentB, rowsM, body0, only, sg, injB, apartB, keysOf, cur, resS, ↓get_cons', ↓hget_cons', Value.oneCell', eq_self, and_self, ne_eq, vI, rK_nil, rK_len, rK_take, rM_len, rM_take, Int.toNat_natCast, cV, cR]
  simp -implicitDefEqProofs only [RL0, RL1, RL2, RL3, RL4, RL5, RL6, RL7, RL8, RL9, chkW, ↓get_cons', ↓hget_cons', ↓hset_cons', St.gh, isNil, evalA, opTs, LOp.args, Nat.reduceBEq, renS, ren1, ren0, renB, only, sg, gmOf, wrN, buildCells, bsRows, Value.oneCell', setAt, eqCells, eqCell, vI, vB, vS, apartW, Nat.reduceEqDiff, Nat.reduceAdd, Nat.reduceSub, Nat.reduceMul, Nat.reduceLT, Nat.reduceLeDiff, Int.reduceEq, Int.reduceNe, Int.reduceLT, Int.reduceLE, reduceCtorEq, ↓reduceIte, ne_eq, eq_self, and_self, str_eq_iff, Int.toNat_natCast, cV, cR]
  generalize rowL l = a at *
  have oka : ∀ z ∈ a, okZ z := fun z hz => by have := a2 z hz; unfold okZ; omega
  have enda : ∀ z ∈ a, z.1 + z.2 ≤ 300 := fun z hz => by have := a2 z hz; omega
  obtain ⟨n1, n2⟩ := norm_facts (by omega) enda
  have hho : holesL a 300 = hol 300 0 (normL a) := by
    unfold holesL; rw [show cutI 300 = 300 by decide, holesN_eq (by omega)]
  have hsp := holes_spec a 300 oka (by omega)
  rw [hho] at hsp
  have nl := (normL_ok a).2
  refine callL_of (norm_spec a oka (by omega)) [(1000, 12)] true [10] [] ?_ ?_
  · refine CallOk.of ?_ ?_ rfl ?_ rfl rfl rfl rfl ?_ rfl ?_ rfl
    all_goals simp [ML, args1, arg1, args0, lents1, lent1, lent0, lents0, lentB, rowsM, body0, only, sg, injB, apartB, keysOf, cur, resS, ↓get_cons', ↓hget_cons', Value.oneCell', eq_self, and_self, ne_eq, vI, rK_nil, rK_len, rK_take, rM_len, rM_take, Int.toNat_natCast, cV, cR, S.flat2, S.flat1, S.flat, Body.flat, c_flat]
  simp -implicitDefEqProofs only [RL0, RL1, RL2, RL3, RL4, RL5, RL6, RL7, RL8, RL9, chkW, ↓get_cons', ↓hget_cons', ↓hset_cons', St.gh, isNil, evalA, opTs, LOp.args, Nat.reduceBEq, renS, ren1, ren0, renB, only, sg, gmOf, wrN, buildCells, bsRows, Value.oneCell', setAt, eqCells, eqCell, vI, vB, vS, apartW, Nat.reduceEqDiff, Nat.reduceAdd, Nat.reduceSub, Nat.reduceMul, Nat.reduceLT, Nat.reduceLeDiff, Int.reduceEq, Int.reduceNe, Int.reduceLT, Int.reduceLE, reduceCtorEq, ↓reduceIte, ne_eq, eq_self, and_self, str_eq_iff, Int.toNat_natCast, cV, cR]
  refine callL_of (hsp) [(1000, 14)] true [10] [] ?_ ?_
  · refine CallOk.of ?_ ?_ rfl ?_ rfl rfl rfl rfl ?_ rfl ?_ rfl
    all_goals simp [ML, args1, arg1, args0, lents1, lent1, lent0, lents0, lentB, rowsM, body0, only, sg, injB, apartB, keysOf, cur, resS, ↓get_cons', ↓hget_cons', Value.oneCell', eq_self, and_self, ne_eq, vI, rK_nil, rK_len, rK_take, rM_len, rM_take, Int.toNat_natCast, cV, cR, S.flat2, S.flat1, S.flat, Body.flat, c_flat]
  simp -implicitDefEqProofs only [RL0, RL1, RL2, RL3, RL4, RL5, RL6, RL7, RL8, RL9, chkW, ↓get_cons', ↓hget_cons', ↓hset_cons', St.gh, isNil, evalA, opTs, LOp.args, Nat.reduceBEq, renS, ren1, ren0, renB, only, sg, gmOf, wrN, buildCells, bsRows, Value.oneCell', setAt, eqCells, eqCell, vI, vB, vS, apartW, Nat.reduceEqDiff, Nat.reduceAdd, Nat.reduceSub, Nat.reduceMul, Nat.reduceLT, Nat.reduceLeDiff, Int.reduceEq, Int.reduceNe, Int.reduceLT, Int.reduceLE, reduceCtorEq, ↓reduceIte, ne_eq, eq_self, and_self, str_eq_iff, Int.toNat_natCast, cV, cR]
  have hz : ∀ z ∈ normL a, 0 < z.2 := fun z hz => (may_gt n1 z hz).2.1
  have h1 := hol_may 300 (normL a) 0 (-1) (by omega) (by omega) hz
  have h2 := hol_in 300 (normL a) 0 (-1) _ n1
  have h3 := hol_sum 300 (normL a) 0 (-1) n1 (by omega) (by omega)
  have hlen := hol_len 300 (normL a) 0
  generalize normL a = n at *
  generalize hol 300 0 n = h at *
  have okn : ∀ z ∈ n, okZ z := fun z hz => by have := (may_gt n1 z hz).2.2; unfold okZ; omega
  have okh : ∀ z ∈ h, okZ z := fun z hz => by have := (may_gt h1 z hz).2.2; unfold okZ; omega
  have sm : ∀ (s : List Z) (k : Nat), k < s.length → sumL (s.take (k + 1)) = sumL (s.take k) + (s.getD k default).2 := fun s k hk => by
    rw [List.take_succ_eq_append_getElem hk, sumL_app, List.getD_eq_getElem?_getD, List.getElem?_eq_getElem hk]; simp [sumL]
  have le : ∀ (s : List Z) (k : Nat), sumL (s.take k) ≤ sumL s := fun s k => by
    have := sumL_app (s.take k) (s.drop k)
    rw [List.take_append_drop] at this
    omega
  refine vc_loop (fun k : Nat => ⟨[(7, .d (.v (.int .i64 k))), (4, .view 12 0 0 n.length), (6, .d (.v (.int .i64 (sumL (n.take k))))), (5, .view 14 0 0 h.length)], [(12, ⟨0, .arr 1 (rM cR n)⟩), (14, ⟨0, .arr 1 (rM cR h)⟩)]⟩)
    (fun k => k ≤ n.length) (fun k => n.length - k) 0 (by omega) (LE.refl _ _) ?_
  rintro k g1
  have e3 : IntKind.i64.wrap ((k : Int) + 1) = ((k + 1 : Nat) : Int) := by rw [i64_in _ (by omega)]; omega
  by_cases hk : k < n.length
  · have e1 : ((k : Int) < (n.length : Int)) = True := eq_true (by omega)
    have hz := okn _ (getD_mem (i := k) hk)
    have hs := sm n k hk
    have hs2 := le n (k + 1)
    generalize hzz : n.getD k default = z at *
    have e4 : IntKind.i64.wrap (((sumL (n.take k) : Nat) : Int) + (z.2 : Int)) = ((sumL (n.take (k + 1)) : Nat) : Int) := by rw [i64_in _ (by omega)]; omega
    simp -implicitDefEqProofs only [RL0, RL1, RL2, RL3, RL4, RL5, RL6, RL7, RL8, RL9, chkW, ↓get_cons', ↓hget_cons', ↓hset_cons', St.gh, isNil, evalA, opTs, LOp.args, Nat.reduceBEq, renS, ren1, ren0, renB, only, sg, gmOf, wrN, buildCells, bsRows, Value.oneCell', setAt, eqCells, eqCell, vI, vB, vS, apartW, Nat.reduceEqDiff, Nat.reduceAdd, Nat.reduceSub, Nat.reduceMul, Nat.reduceLT, Nat.reduceLeDiff, Int.reduceEq, Int.reduceNe, Int.reduceLT, Int.reduceLE, reduceCtorEq, ↓reduceIte, ne_eq, eq_self, and_self, str_eq_iff, Int.toNat_natCast, cV, cR, e1, e3, hzz]
    refine ⟨by omega, by omega, ?_⟩
    refine callL_of (long_spec z hz) [] false [] [] ?_ ?_
    · refine CallOk.of ?_ ?_ rfl ?_ rfl rfl rfl rfl ?_ rfl ?_ rfl
      all_goals simp [ML, args1, arg1, args0, lents1, lent1, lent0, lents0, lentB, rowsM, body0, only, sg, injB, apartB, keysOf, cur, resS, ↓get_cons', ↓hget_cons', Value.oneCell', eq_self, and_self, ne_eq, vI, rK_nil, rK_len, rK_take, rM_len, rM_take, Int.toNat_natCast, cV, cR, e3, e4]
    simp -implicitDefEqProofs only [RL0, RL1, RL2, RL3, RL4, RL5, RL6, RL7, RL8, RL9, chkW, ↓get_cons', ↓hget_cons', ↓hset_cons', St.gh, isNil, evalA, opTs, LOp.args, Nat.reduceBEq, renS, ren1, ren0, renB, only, sg, gmOf, wrN, buildCells, bsRows, Value.oneCell', setAt, eqCells, eqCell, vI, vB, vS, apartW, Nat.reduceEqDiff, Nat.reduceAdd, Nat.reduceSub, Nat.reduceMul, Nat.reduceLT, Nat.reduceLeDiff, Int.reduceEq, Int.reduceNe, Int.reduceLT, Int.reduceLE, reduceCtorEq, ↓reduceIte, ne_eq, eq_self, and_self, str_eq_iff, Int.toNat_natCast, cV, cR, e3, e4]

    exact ⟨k + 1, by omega, by omega, LE.refl _ _⟩
  have hk' : k = n.length := by omega
  subst hk'
  have e1 : ((n.length : Int) < (n.length : Int)) = False := eq_false (by omega)
  simp -implicitDefEqProofs only [RL0, RL1, RL2, RL3, RL4, RL5, RL6, RL7, RL8, RL9, chkW, ↓get_cons', ↓hget_cons', ↓hset_cons', St.gh, isNil, evalA, opTs, LOp.args, Nat.reduceBEq, renS, ren1, ren0, renB, only, sg, gmOf, wrN, buildCells, bsRows, Value.oneCell', setAt, eqCells, eqCell, vI, vB, vS, apartW, Nat.reduceEqDiff, Nat.reduceAdd, Nat.reduceSub, Nat.reduceMul, Nat.reduceLT, Nat.reduceLeDiff, Int.reduceEq, Int.reduceNe, Int.reduceLT, Int.reduceLE, reduceCtorEq, ↓reduceIte, ne_eq, eq_self, and_self, str_eq_iff, Int.toNat_natCast, cV, cR, e1, List.take_length]
  refine vc_loop (fun k : Nat => ⟨[(8, .d (.v (.int .i64 k))), (5, .view 14 0 0 h.length), (6, .d (.v (.int .i64 (sumL n + sumL (h.take k) : Nat)))), (4, .view 12 0 0 n.length)], [(12, ⟨0, .arr 1 (rM cR n)⟩), (14, ⟨0, .arr 1 (rM cR h)⟩)]⟩)
    (fun k => k ≤ h.length) (fun k => h.length - k) 0 (by omega) (LE.refl _ _) ?_
  rintro k g2
  have e3 : IntKind.i64.wrap ((k : Int) + 1) = ((k + 1 : Nat) : Int) := by rw [i64_in _ (by omega)]; omega
  by_cases hk : k < h.length
  · have e1 : ((k : Int) < (h.length : Int)) = True := eq_true (by omega)
    have hz := okh _ (getD_mem (i := k) hk)
    have hs := sm h k hk
    have hs2 := le h (k + 1)
    generalize hzz : h.getD k default = z at *
    have e4 : IntKind.i64.wrap (((sumL n + sumL (h.take k) : Nat) : Int) + (z.2 : Int)) = ((sumL n + sumL (h.take (k + 1)) : Nat) : Int) := by rw [i64_in _ (by omega)]; omega
    simp -implicitDefEqProofs only [RL0, RL1, RL2, RL3, RL4, RL5, RL6, RL7, RL8, RL9, chkW, ↓get_cons', ↓hget_cons', ↓hset_cons', St.gh, isNil, evalA, opTs, LOp.args, Nat.reduceBEq, renS, ren1, ren0, renB, only, sg, gmOf, wrN, buildCells, bsRows, Value.oneCell', setAt, eqCells, eqCell, vI, vB, vS, apartW, Nat.reduceEqDiff, Nat.reduceAdd, Nat.reduceSub, Nat.reduceMul, Nat.reduceLT, Nat.reduceLeDiff, Int.reduceEq, Int.reduceNe, Int.reduceLT, Int.reduceLE, reduceCtorEq, ↓reduceIte, ne_eq, eq_self, and_self, str_eq_iff, Int.toNat_natCast, cV, cR, e1, e3, hzz]
    refine ⟨by omega, by omega, ?_⟩
    refine callL_of (long_spec z hz) [] false [] [] ?_ ?_
    · refine CallOk.of ?_ ?_ rfl ?_ rfl rfl rfl rfl ?_ rfl ?_ rfl
      all_goals simp [ML, args1, arg1, args0, lents1, lent1, lent0, lents0, lentB, rowsM, body0, only, sg, injB, apartB, keysOf, cur, resS, ↓get_cons', ↓hget_cons', Value.oneCell', eq_self, and_self, ne_eq, vI, rK_nil, rK_len, rK_take, rM_len, rM_take, Int.toNat_natCast, cV, cR, e3, e4]
    simp -implicitDefEqProofs only [RL0, RL1, RL2, RL3, RL4, RL5, RL6, RL7, RL8, RL9, chkW, ↓get_cons', ↓hget_cons', ↓hset_cons', St.gh, isNil, evalA, opTs, LOp.args, Nat.reduceBEq, renS, ren1, ren0, renB, only, sg, gmOf, wrN, buildCells, bsRows, Value.oneCell', setAt, eqCells, eqCell, vI, vB, vS, apartW, Nat.reduceEqDiff, Nat.reduceAdd, Nat.reduceSub, Nat.reduceMul, Nat.reduceLT, Nat.reduceLeDiff, Int.reduceEq, Int.reduceNe, Int.reduceLT, Int.reduceLE, reduceCtorEq, ↓reduceIte, ne_eq, eq_self, and_self, str_eq_iff, Int.toNat_natCast, cV, cR, e3, e4]
    exact ⟨k + 1, by omega, by omega, LE.refl _ _⟩
  have hk' : k = h.length := by omega
  subst hk'
  have e2 : ((h.length : Int) < (h.length : Int)) = False := eq_false (by omega)
  have e300 : ((sumL n + sumL h : Nat) : Int) = 300 := by omega
  simp -implicitDefEqProofs only [RL0, RL1, RL2, RL3, RL4, RL5, RL6, RL7, RL8, RL9, chkW, ↓get_cons', ↓hget_cons', ↓hset_cons', St.gh, isNil, evalA, opTs, LOp.args, Nat.reduceBEq, renS, ren1, ren0, renB, only, sg, gmOf, wrN, buildCells, bsRows, Value.oneCell', setAt, eqCells, eqCell, vI, vB, vS, apartW, Nat.reduceEqDiff, Nat.reduceAdd, Nat.reduceSub, Nat.reduceMul, Nat.reduceLT, Nat.reduceLeDiff, Int.reduceEq, Int.reduceNe, Int.reduceLT, Int.reduceLE, reduceCtorEq, ↓reduceIte, ne_eq, eq_self, and_self, str_eq_iff, Int.toNat_natCast, cV, cR, e2, List.take_length, e300]
  refine callL_of (told_spec16) [] false [] [] ?_ ?_
  · refine CallOk.of ?_ ?_ rfl ?_ rfl rfl rfl rfl ?_ rfl ?_ rfl
    all_goals simp [ML, args1, arg1, args0, lents1, lent1, lent0, lents0, lentB, rowsM, body0, only, sg, injB, apartB, keysOf, cur, resS, ↓get_cons', ↓hget_cons', Value.oneCell', eq_self, and_self, ne_eq, vI, rK_nil, rK_len, rK_take, rM_len, rM_take, Int.toNat_natCast, cV, cR, e300]
  simp -implicitDefEqProofs only [RL0, RL1, RL2, RL3, RL4, RL5, RL6, RL7, RL8, RL9, chkW, ↓get_cons', ↓hget_cons', ↓hset_cons', St.gh, isNil, evalA, opTs, LOp.args, Nat.reduceBEq, renS, ren1, ren0, renB, only, sg, gmOf, wrN, buildCells, bsRows, Value.oneCell', setAt, eqCells, eqCell, vI, vB, vS, apartW, Nat.reduceEqDiff, Nat.reduceAdd, Nat.reduceSub, Nat.reduceMul, Nat.reduceLT, Nat.reduceLeDiff, Int.reduceEq, Int.reduceNe, Int.reduceLT, Int.reduceLE, reduceCtorEq, ↓reduceIte, ne_eq, eq_self, and_self, str_eq_iff, Int.toNat_natCast, cV, cR, e300]
  have inn : ∀ p, inL n p → 0 ≤ p ∧ p < 300 := by
    rintro p ⟨z, hz, q1, q2⟩
    have := (may_gt n1 z hz).2.2
    omega
  have hno : normL (n ++ h) = R1 := by
    have hb : ∀ z ∈ n ++ h, z.1 + z.2 ≤ 300 := fun z hz => by
      rcases List.mem_append.1 hz with hz | hz
      · have := (may_gt n1 z hz).2.2; omega
      · have := (may_gt h1 z hz).2.2; omega
    obtain ⟨f1, f2⟩ := norm_facts (by omega) hb
    refine may_uniq (b := -1) (k := 300) f1 (by simp [R1, mayG]) fun p => ?_
    rw [f2, inL_app, h2, R1, inL_cons]
    simp only [inL_nil, or_false]
    by_cases hi : inL n p
    · have := inn p hi
      simp only [hi, true_or, true_iff]
      first | done | omega
    · simp only [hi, false_or, not_false_eq_true, and_true]
      try omega
  have hhn : normL h = h := norm_self (by omega) h1
  have hho2 : holesL h 300 = n := by
    unfold holesL
    rw [show cutI 300 = 300 by decide, holesN_eq (by omega), hhn]
    have hz2 : ∀ z ∈ h, 0 < z.2 := fun z hz => (may_gt h1 z hz).2.1
    refine may_uniq (hol_may 300 h 0 (-1) (by omega) (by omega) hz2) n1 fun p => ?_
    rw [hol_in 300 h 0 (-1) _ h1, h2]
    by_cases hi : inL n p
    · have := inn p hi
      simp only [hi, not_true_eq_false, and_false, not_false_eq_true, and_true, iff_true]
      omega
    · simp only [hi, not_false_eq_true, and_true, iff_false]
      omega
  have oknh : ∀ z ∈ n ++ h, okZ z := fun z hz => by
    rcases List.mem_append.1 hz with hz | hz
    · exact okn z hz
    · exact okh z hz
  have q1 := norm_spec (n ++ h) oknh (by rw [List.length_append]; omega)
  rw [hno] at q1
  have tnh : List.take (n.length + h.length) (n ++ h) = n ++ h := List.take_of_length_le (by rw [List.length_append]; omega)
  have q2 := same_spec R1 R1 (by decide) (by decide) (by decide)
  have q3 := holes_spec h 300 okh (by omega)
  rw [hho2] at q3
  have q4 := same_spec n n okn okn (by omega)
  have lnh : (n ++ h).length = n.length + h.length := List.length_append
  rw [decide_eq_true rfl] at q2 q4
  refine ⟨by omega, by omega, by omega, by omega, ?_⟩
  refine callL_of (q1) [(1000, 52)] true [47] [] ?_ ?_
  · refine CallOk.of ?_ ?_ rfl ?_ rfl rfl rfl rfl ?_ rfl ?_ rfl
    all_goals simp [ML, args1, arg1, args0, lents1, lent1, lent0, lents0, lentB, rowsM, body0, only, sg, injB, apartB, keysOf, cur, resS, ↓get_cons', ↓hget_cons', Value.oneCell', eq_self, and_self, ne_eq, vI, rK_nil, rK_len, rK_take, rM_len, rM_take, Int.toNat_natCast, cV, cR, foldR, lR1, lnh, S.flat2, S.flat1, S.flat, Body.flat, c_flat, foldR, lR1, lnh, tnh]
  simp -implicitDefEqProofs only [RL0, RL1, RL2, RL3, RL4, RL5, RL6, RL7, RL8, RL9, chkW, ↓get_cons', ↓hget_cons', ↓hset_cons', St.gh, isNil, evalA, opTs, LOp.args, Nat.reduceBEq, renS, ren1, ren0, renB, only, sg, gmOf, wrN, buildCells, bsRows, Value.oneCell', setAt, eqCells, eqCell, vI, vB, vS, apartW, Nat.reduceEqDiff, Nat.reduceAdd, Nat.reduceSub, Nat.reduceMul, Nat.reduceLT, Nat.reduceLeDiff, Int.reduceEq, Int.reduceNe, Int.reduceLT, Int.reduceLE, reduceCtorEq, ↓reduceIte, ne_eq, eq_self, and_self, str_eq_iff, Int.toNat_natCast, cV, cR, foldR, lR1, lnh]
  refine callL_of (q2) [] true [52, 53] [] ?_ ?_
  · refine CallOk.of ?_ ?_ rfl ?_ rfl rfl rfl rfl ?_ rfl ?_ rfl
    all_goals simp [ML, args1, arg1, args0, lents1, lent1, lent0, lents0, lentB, rowsM, body0, only, sg, injB, apartB, keysOf, cur, resS, ↓get_cons', ↓hget_cons', Value.oneCell', eq_self, and_self, ne_eq, vI, rK_nil, rK_len, rK_take, rM_len, rM_take, Int.toNat_natCast, cV, cR, foldR, lR1, S.flat2, S.flat1, S.flat, Body.flat, c_flat, foldR, lR1, tR1]
  simp -implicitDefEqProofs only [RL0, RL1, RL2, RL3, RL4, RL5, RL6, RL7, RL8, RL9, chkW, ↓get_cons', ↓hget_cons', ↓hset_cons', St.gh, isNil, evalA, opTs, LOp.args, Nat.reduceBEq, renS, ren1, ren0, renB, only, sg, gmOf, wrN, buildCells, bsRows, Value.oneCell', setAt, eqCells, eqCell, vI, vB, vS, apartW, Nat.reduceEqDiff, Nat.reduceAdd, Nat.reduceSub, Nat.reduceMul, Nat.reduceLT, Nat.reduceLeDiff, Int.reduceEq, Int.reduceNe, Int.reduceLT, Int.reduceLE, reduceCtorEq, ↓reduceIte, ne_eq, eq_self, and_self, str_eq_iff, Int.toNat_natCast, cV, cR, foldR, lR1]
  refine callL_of (q3) [(1000, 58)] true [14] [] ?_ ?_
  · refine CallOk.of ?_ ?_ rfl ?_ rfl rfl rfl rfl ?_ rfl ?_ rfl
    all_goals simp [ML, args1, arg1, args0, lents1, lent1, lent0, lents0, lentB, rowsM, body0, only, sg, injB, apartB, keysOf, cur, resS, ↓get_cons', ↓hget_cons', Value.oneCell', eq_self, and_self, ne_eq, vI, rK_nil, rK_len, rK_take, rM_len, rM_take, Int.toNat_natCast, cV, cR, S.flat2, S.flat1, S.flat, Body.flat, c_flat]
  simp -implicitDefEqProofs only [RL0, RL1, RL2, RL3, RL4, RL5, RL6, RL7, RL8, RL9, chkW, ↓get_cons', ↓hget_cons', ↓hset_cons', St.gh, isNil, evalA, opTs, LOp.args, Nat.reduceBEq, renS, ren1, ren0, renB, only, sg, gmOf, wrN, buildCells, bsRows, Value.oneCell', setAt, eqCells, eqCell, vI, vB, vS, apartW, Nat.reduceEqDiff, Nat.reduceAdd, Nat.reduceSub, Nat.reduceMul, Nat.reduceLT, Nat.reduceLeDiff, Int.reduceEq, Int.reduceNe, Int.reduceLT, Int.reduceLE, reduceCtorEq, ↓reduceIte, ne_eq, eq_self, and_self, str_eq_iff, Int.toNat_natCast, cV, cR]
  refine callL_of (q4) [] true [58, 12] [] ?_ ?_
  · refine CallOk.of ?_ ?_ rfl ?_ rfl rfl rfl rfl ?_ rfl ?_ rfl
    all_goals simp [ML, args1, arg1, args0, lents1, lent1, lent0, lents0, lentB, rowsM, body0, only, sg, injB, apartB, keysOf, cur, resS, ↓get_cons', ↓hget_cons', Value.oneCell', eq_self, and_self, ne_eq, vI, rK_nil, rK_len, rK_take, rM_len, rM_take, Int.toNat_natCast, cV, cR, S.flat2, S.flat1, S.flat, Body.flat, c_flat]
  simp -implicitDefEqProofs only [RL0, RL1, RL2, RL3, RL4, RL5, RL6, RL7, RL8, RL9, chkW, ↓get_cons', ↓hget_cons', ↓hset_cons', St.gh, isNil, evalA, opTs, LOp.args, Nat.reduceBEq, renS, ren1, ren0, renB, only, sg, gmOf, wrN, buildCells, bsRows, Value.oneCell', setAt, eqCells, eqCell, vI, vB, vS, apartW, Nat.reduceEqDiff, Nat.reduceAdd, Nat.reduceSub, Nat.reduceMul, Nat.reduceLT, Nat.reduceLeDiff, Int.reduceEq, Int.reduceNe, Int.reduceLT, Int.reduceLE, reduceCtorEq, ↓reduceIte, ne_eq, eq_self, and_self, str_eq_iff, Int.toNat_natCast, cV, cR]
  refine RetOk.of [] [] ?_ ?_ rfl ?_ rfl rfl ?_
  all_goals simp [ML, args1, arg1, args0, lents1, lent1, lent0, lents0, lentB, rowsM, body0, only, sg, injB, apartB, keysOf, cur, resS, ↓get_cons', ↓hget_cons', Value.oneCell', eq_self, and_self, ne_eq, vI, rK_nil, Int.toNat_natCast, cV, cR]
end Go.Proofs.Ex
