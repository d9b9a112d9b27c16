import Derived.Test.YthbonnlhoaeflaaExL
import Derived.Test.YthbonnlhoaeflaaExJ
set_option linter.unusedVariables false
set_option linter.unusedSimpArgs false
-- DEFS Int.toNat_natCast, cV, cR
namespace Go.Proofs.Ex
open Go.RowKit Go.Lib Go.Eng Go.Proofs Go.IntWalk
set_option maxRecDepth 100000
set_option linter.unusedVariables false
set_option maxHeartbeats 400000
theorem row_facts (l : List Int) : (rowL l).length ≤ 20 ∧ ∀ z ∈ rowL l, z.1 < 250 ∧ z.2 < 20 := by
  refine ⟨by unfold rowL; rw [List.length_map, List.length_take]; omega, fun z hz => ?_⟩
  obtain ⟨n, _, rfl⟩ := List.mem_map.1 hz
  unfold rowZ
  omega
theorem small_nat (n : Int) (k : Int) (K : Nat) (hk : k = K) (h0 : 0 < K) (h1 : K < 2 ^ 62) : ∃ x : Nat, x < K ∧ IntKind.i64.wrap ((IntKind.u64.wrap n).tmod k) = (x : Int) := by
  subst hk
  obtain ⟨u1, u2⟩ := u64_eq n
  refine ⟨u64 n % K, Nat.mod_lt _ h0, ?_⟩
  rw [u1, Int.tmod_eq_emod_of_nonneg (by omega), ← Int.natCast_emod]
  have := Nat.mod_lt (u64 n) h0
  rw [i64_in _ (by omega)]
theorem cutI_id (n : Nat) (h : n ≤ 1099511627776) : cutI (n : Int) = n := cutI_nat n h
theorem meets_spec (l : List Int) (at' long : Int) (hl : l.length ≤ 2 ^ 50) : Eng.Spec Try.prog 4 [] [] [.d (.sl 1 (rK .i64 l)), .d (.v (.int .i64 at')), .d (.v (.int .i64 long))] [] (.d (.v (.bool true))) := by
  obtain ⟨a1, a2⟩ := row_facts l
  obtain ⟨x, x1, x2⟩ := small_nat at' 300 300 rfl (by decide) (by decide)
  obtain ⟨y, y1, y2⟩ := small_nat long 100 100 rfl (by decide) (by decide)
  refine told_spec mixed f4_told f4_results f4_text rfl (by simp) rfl ?_
  simp only [initS, List.length_cons, List.length_nil, List.range, List.range.loop, List.getD_cons_zero, List.getD_cons_succ, List.cons_append, List.nil_append, Int.toNat_natCast, cV, cR]
  simp -implicitDefEqProofs only [RL0, RL1, RL2, RL3, RL4, RL5, RL6, RL7, RL8, RL9, chkW, ↓get_cons', ↓hget_cons', ↓hset_cons', St.gh, isNil, evalA, opTs, LOp.args, Nat.reduceBEq, renS, ren1, ren0, renB, only, sg, gmOf, wrN, buildCells, bsRows, Value.oneCell', setAt, eqCells, eqCell, vI, vB, vS, apartW, Nat.reduceEqDiff, Nat.reduceAdd, Nat.reduceSub, Nat.reduceMul, Nat.reduceLT, Nat.reduceLeDiff, Int.reduceEq, Int.reduceNe, Int.reduceLT, Int.reduceLE, reduceCtorEq, ↓reduceIte, ne_eq, eq_self, and_self, str_eq_iff]
  refine callL_of (row_spec l hl) [(1000, 13)] false [] [] ?_ ?_
  · refine CallOk.of ?_ ?_ rfl ?_ rfl rfl rfl rfl ?_ rfl ?_ rfl
    all_goals simp [ML, args1, arg1, args0, lents1, lent1, lent0, lents0, lentB, rowsM, body0, only, sg, injB, apartB, keysOf, cur, resS, ↓get_cons', ↓hget_cons', Value.oneCell', eq_self, and_self, ne_eq, vI, rK_nil, rK_len, rK_take, rM_len, rM_take, Int.toNat_natCast, cV, cR, x2, y2]
  simp -implicitDefEqProofs only [RL0, RL1, RL2, RL3, RL4, RL5, RL6, RL7, RL8, RL9, chkW, ↓get_cons', ↓hget_cons', ↓hset_cons', St.gh, isNil, evalA, opTs, LOp.args, Nat.reduceBEq, renS, ren1, ren0, renB, only, sg, gmOf, wrN, buildCells, bsRows, Value.oneCell', setAt, eqCells, eqCell, vI, vB, vS, apartW, Nat.reduceEqDiff, Nat.reduceAdd, Nat.reduceSub, Nat.reduceMul, Nat.reduceLT, Nat.reduceLeDiff, Int.reduceEq, Int.reduceNe, Int.reduceLT, Int.reduceLE, reduceCtorEq, ↓reduceIte, ne_eq, eq_self, and_self, str_eq_iff, Int.toNat_natCast, cV, cR, x2, y2]
  generalize rowL l = a at *
  have oka : ∀ z ∈ a, okZ z := fun z hz => by have := a2 z hz; unfold okZ; omega
  have enda : ∀ z ∈ a, z.1 + z.2 ≤ 1099511627776 := fun z hz => by have := a2 z hz; omega
  obtain ⟨n1, n2⟩ := norm_facts (Nat.le_refl _) enda
  have hm : meetL a x y = meetN (normL a) x y := by unfold meetL; rw [cutI_id _ (by omega), cutI_id _ (by omega)]
  obtain ⟨m1, m2⟩ := meet_facts x (x + y) (normL a) [] (-1) 1099511627776 n1 (by simp only [mayG]; omega) (by omega)
  have m3 : mayG (-1) (meetN (normL a) x y) ((1099511627776 : Nat) : Int) := m1
  have m4 : ∀ p, inL (meetN (normL a) x y) p ↔ inL a p ∧ (x : Int) ≤ p ∧ p < ((x + y : Nat) : Int) := fun p => by
    unfold meetN; rw [m2]; simp only [inL_nil, false_or]; rw [n2]
  have hml : (meetN (normL a) x y).length ≤ 2 ^ 30 := by
    have : ∀ (s out : List Z), (s.foldl (mstep x (x + y)) out).length ≤ out.length + s.length := by
      intro s
      induction s with
      | nil => intro out; simp
      | cons z s ih =>
        intro out
        have := ih (mstep x (x + y) out z)
        have h2 : (mstep x (x + y) out z).length ≤ out.length + 1 := by unfold mstep; split <;> simp
        simp only [List.foldl_cons, List.length_cons]
        omega
    have h3 := this (normL a) []
    have h4 := (normL_ok a).2
    unfold meetN
    simp only [List.length_nil] at h3
    omega
  have hme := meet_spec a x y oka (by omega)
  rw [hm] at hme
  refine callL_of (hme) [(1000, 25)] true [13] [] ?_ ?_
  · refine CallOk.of ?_ ?_ rfl ?_ rfl rfl rfl rfl ?_ rfl ?_ rfl
    all_goals simp [ML, args1, arg1, args0, lents1, lent1, lent0, lents0, lentB, rowsM, body0, only, sg, injB, apartB, keysOf, cur, resS, ↓get_cons', ↓hget_cons', Value.oneCell', eq_self, and_self, ne_eq, vI, rK_nil, rK_len, rK_take, rM_len, rM_take, Int.toNat_natCast, cV, cR, S.flat2, S.flat1, S.flat, Body.flat, c_flat]
  simp -implicitDefEqProofs only [RL0, RL1, RL2, RL3, RL4, RL5, RL6, RL7, RL8, RL9, chkW, ↓get_cons', ↓hget_cons', ↓hset_cons', St.gh, isNil, evalA, opTs, LOp.args, Nat.reduceBEq, renS, ren1, ren0, renB, only, sg, gmOf, wrN, buildCells, bsRows, Value.oneCell', setAt, eqCells, eqCell, vI, vB, vS, apartW, Nat.reduceEqDiff, Nat.reduceAdd, Nat.reduceSub, Nat.reduceMul, Nat.reduceLT, Nat.reduceLeDiff, Int.reduceEq, Int.reduceNe, Int.reduceLT, Int.reduceLE, reduceCtorEq, ↓reduceIte, ne_eq, eq_self, and_self, str_eq_iff, Int.toNat_natCast, cV, cR]
  generalize meetN (normL a) x y = m at *
  have hmn : normL m = m := norm_self (Nat.le_refl _) m3
  have okm : ∀ z ∈ m, okZ z := fun z hz => by have := (may_gt m3 z hz).2.2; unfold okZ; omega
  have hsame := same_spec m m okm okm (by omega)
  have hnm := norm_spec m okm hml
  rw [hmn] at hnm
  refine vc_loop (fun p : Nat => ⟨[(11, .d (.v (.int .i64 p))), (9, .d (.v (.int .i64 y))), (8, .d (.v (.int .i64 x))), (7, .view 13 0 0 a.length), (10, .view 25 0 0 m.length)], [(13, ⟨0, .arr 1 (rM cR a)⟩), (25, ⟨0, .arr 1 (rM cR m)⟩)]⟩)
    (fun p => p ≤ 300) (fun p => 300 - p) 0 (by omega) (LE.refl _ _) ?_
  rintro p g1
  by_cases hp : p < 300
  · have e1 : ((p : Int) < 300) = True := eq_true (by omega)
    have e3 : IntKind.i64.wrap ((p : Int) + 1) = ((p + 1 : Nat) : Int) := by rw [i64_in _ (by omega)]; omega
    have e4 : IntKind.i64.wrap ((x : Int) + (y : Int)) = ((x + y : Nat) : Int) := by rw [i64_in _ (by omega)]; omega
    have s1 := has_spec m p okm hml
    have s2 := has_spec a p oka (by omega)
    have q := m4 p
    rw [← n2] at q
    rw [hmn] at s1
    have fin : ∃ y_1 : Nat, y_1 ≤ 300 ∧ 300 - y_1 < 300 - p ∧ Eng.LE [] ⟨[(11, .d (.v (.int .i64 (p + 1 : Nat)))), (9, .d (.v (.int .i64 y))), (8, .d (.v (.int .i64 x))), (7, .view 13 0 0 a.length), (10, .view 25 0 0 m.length)], [(13, ⟨0, .arr 1 (rM cR a)⟩), (25, ⟨0, .arr 1 (rM cR m)⟩)]⟩ ⟨[(11, .d (.v (.int .i64 y_1))), (9, .d (.v (.int .i64 y))), (8, .d (.v (.int .i64 x))), (7, .view 13 0 0 a.length), (10, .view 25 0 0 m.length)], [(13, ⟨0, .arr 1 (rM cR a)⟩), (25, ⟨0, .arr 1 (rM cR m)⟩)]⟩ := ⟨p + 1, by omega, by omega, LE.refl _ _⟩
    have hb1 : ∀ b, decide (inL m p) = b → (b = true ↔ inL m p) := by rintro b rfl; exact decide_eq_true_iff
    have hb2 : ∀ b, decide (inL (normL a) p) = b → (b = true ↔ inL (normL a) p) := by rintro b rfl; exact decide_eq_true_iff
    generalize decide (inL m p) = b1 at *
    generalize decide (inL (normL a) p) = b2 at *
    replace hb1 := hb1 _ rfl
    replace hb2 := hb2 _ rfl
    rw [← hb1, ← hb2] at q
    simp -implicitDefEqProofs only [RL0, RL1, RL2, RL3, RL4, RL5, RL6, RL7, RL8, RL9, chkW, ↓get_cons', ↓hget_cons', ↓hset_cons', St.gh, isNil, evalA, opTs, LOp.args, Nat.reduceBEq, renS, ren1, ren0, renB, only, sg, gmOf, wrN, buildCells, bsRows, Value.oneCell', setAt, eqCells, eqCell, vI, vB, vS, apartW, Nat.reduceEqDiff, Nat.reduceAdd, Nat.reduceSub, Nat.reduceMul, Nat.reduceLT, Nat.reduceLeDiff, Int.reduceEq, Int.reduceNe, Int.reduceLT, Int.reduceLE, reduceCtorEq, ↓reduceIte, ne_eq, eq_self, and_self, str_eq_iff, Int.toNat_natCast, cV, cR, e1]
    refine callL_of (s1) [] true [25] [] ?_ ?_
    · refine CallOk.of ?_ ?_ rfl ?_ rfl rfl rfl rfl ?_ rfl ?_ rfl
      all_goals simp [ML, args1, arg1, args0, lents1, lent1, lent0, lents0, lentB, rowsM, body0, only, sg, injB, apartB, keysOf, cur, resS, ↓get_cons', ↓hget_cons', Value.oneCell', eq_self, and_self, ne_eq, vI, rK_nil, rK_len, rK_take, rM_len, rM_take, Int.toNat_natCast, cV, cR, e3, e4, S.flat2, S.flat1, S.flat, Body.flat, c_flat]
    simp -implicitDefEqProofs only [RL0, RL1, RL2, RL3, RL4, RL5, RL6, RL7, RL8, RL9, chkW, ↓get_cons', ↓hget_cons', ↓hset_cons', St.gh, isNil, evalA, opTs, LOp.args, Nat.reduceBEq, renS, ren1, ren0, renB, only, sg, gmOf, wrN, buildCells, bsRows, Value.oneCell', setAt, eqCells, eqCell, vI, vB, vS, apartW, Nat.reduceEqDiff, Nat.reduceAdd, Nat.reduceSub, Nat.reduceMul, Nat.reduceLT, Nat.reduceLeDiff, Int.reduceEq, Int.reduceNe, Int.reduceLT, Int.reduceLE, reduceCtorEq, ↓reduceIte, ne_eq, eq_self, and_self, str_eq_iff, Int.toNat_natCast, cV, cR, e3, e4]
    refine callL_of (s2) [] true [13] [] ?_ ?_
    · refine CallOk.of ?_ ?_ rfl ?_ rfl rfl rfl rfl ?_ rfl ?_ rfl
      all_goals simp [ML, args1, arg1, args0, lents1, lent1, lent0, lents0, lentB, rowsM, body0, only, sg, injB, apartB, keysOf, cur, resS, ↓get_cons', ↓hget_cons', Value.oneCell', eq_self, and_self, ne_eq, vI, rK_nil, rK_len, rK_take, rM_len, rM_take, Int.toNat_natCast, cV, cR, e3, e4, S.flat2, S.flat1, S.flat, Body.flat, c_flat]
    simp -implicitDefEqProofs only [RL0, RL1, RL2, RL3, RL4, RL5, RL6, RL7, RL8, RL9, chkW, ↓get_cons', ↓hget_cons', ↓hset_cons', St.gh, isNil, evalA, opTs, LOp.args, Nat.reduceBEq, renS, ren1, ren0, renB, only, sg, gmOf, wrN, buildCells, bsRows, Value.oneCell', setAt, eqCells, eqCell, vI, vB, vS, apartW, Nat.reduceEqDiff, Nat.reduceAdd, Nat.reduceSub, Nat.reduceMul, Nat.reduceLT, Nat.reduceLeDiff, Int.reduceEq, Int.reduceNe, Int.reduceLT, Int.reduceLE, reduceCtorEq, ↓reduceIte, ne_eq, eq_self, and_self, str_eq_iff, Int.toNat_natCast, cV, cR, e3, e4]
    cases b2
    · cases b1
      · simp -implicitDefEqProofs only [RL0, RL1, RL2, RL3, RL4, RL5, RL6, RL7, RL8, RL9, chkW, ↓get_cons', ↓hget_cons', ↓hset_cons', St.gh, isNil, evalA, opTs, LOp.args, Nat.reduceBEq, renS, ren1, ren0, renB, only, sg, gmOf, wrN, buildCells, bsRows, Value.oneCell', setAt, eqCells, eqCell, vI, vB, vS, apartW, Nat.reduceEqDiff, Nat.reduceAdd, Nat.reduceSub, Nat.reduceMul, Nat.reduceLT, Nat.reduceLeDiff, Int.reduceEq, Int.reduceNe, Int.reduceLT, Int.reduceLE, reduceCtorEq, ↓reduceIte, ne_eq, eq_self, and_self, str_eq_iff, Int.toNat_natCast, cV, cR, e3, e4, Bool.true_beq, Bool.false_beq, Bool.not_true, Bool.not_false, decide_true, decide_false]
        exact fin
      · exact absurd (q.1 rfl).1 (by simp)
    · by_cases c1 : (x : Int) ≤ p
      · have c1e := eq_true c1
        by_cases c2 : (p : Int) < ((x + y : Nat) : Int)
        · have c2e := eq_true c2
          have : b1 = true := q.2 ⟨rfl, c1, c2⟩
          subst this
          simp -implicitDefEqProofs only [RL0, RL1, RL2, RL3, RL4, RL5, RL6, RL7, RL8, RL9, chkW, ↓get_cons', ↓hget_cons', ↓hset_cons', St.gh, isNil, evalA, opTs, LOp.args, Nat.reduceBEq, renS, ren1, ren0, renB, only, sg, gmOf, wrN, buildCells, bsRows, Value.oneCell', setAt, eqCells, eqCell, vI, vB, vS, apartW, Nat.reduceEqDiff, Nat.reduceAdd, Nat.reduceSub, Nat.reduceMul, Nat.reduceLT, Nat.reduceLeDiff, Int.reduceEq, Int.reduceNe, Int.reduceLT, Int.reduceLE, reduceCtorEq, ↓reduceIte, ne_eq, eq_self, and_self, str_eq_iff, Int.toNat_natCast, cV, cR, e3, e4, Bool.true_beq, Bool.false_beq, Bool.not_true, Bool.not_false, decide_true, decide_false, c1e, c2e]
          exact fin
        · have c2e := eq_false c2
          have : b1 = false := by
            cases b1
            · rfl
            · exact absurd (q.1 rfl).2.2 c2
          subst this
          simp -implicitDefEqProofs only [RL0, RL1, RL2, RL3, RL4, RL5, RL6, RL7, RL8, RL9, chkW, ↓get_cons', ↓hget_cons', ↓hset_cons', St.gh, isNil, evalA, opTs, LOp.args, Nat.reduceBEq, renS, ren1, ren0, renB, only, sg, gmOf, wrN, buildCells, bsRows, Value.oneCell', setAt, eqCells, eqCell, vI, vB, vS, apartW, Nat.reduceEqDiff, Nat.reduceAdd, Nat.reduceSub, Nat.reduceMul, Nat.reduceLT, Nat.reduceLeDiff, Int.reduceEq, Int.reduceNe, Int.reduceLT, Int.reduceLE, reduceCtorEq, ↓reduceIte, ne_eq, eq_self, and_self, str_eq_iff, Int.toNat_natCast, cV, cR, e3, e4, Bool.true_beq, Bool.false_beq, Bool.not_true, Bool.not_false, decide_true, decide_false, c1e, c2e]
          exact fin
      · have c1e := eq_false c1
        have : b1 = false := by
          cases b1
          · rfl
          · exact absurd (q.1 rfl).2.1 c1
        subst this
        simp -implicitDefEqProofs only [RL0, RL1, RL2, RL3, RL4, RL5, RL6, RL7, RL8, RL9, chkW, ↓get_cons', ↓hget_cons', ↓hset_cons', St.gh, isNil, evalA, opTs, LOp.args, Nat.reduceBEq, renS, ren1, ren0, renB, only, sg, gmOf, wrN, buildCells, bsRows, Value.oneCell', setAt, eqCells, eqCell, vI, vB, vS, apartW, Nat.reduceEqDiff, Nat.reduceAdd, Nat.reduceSub, Nat.reduceMul, Nat.reduceLT, Nat.reduceLeDiff, Int.reduceEq, Int.reduceNe, Int.reduceLT, Int.reduceLE, reduceCtorEq, ↓reduceIte, ne_eq, eq_self, and_self, str_eq_iff, Int.toNat_natCast, cV, cR, e3, e4, Bool.true_beq, Bool.false_beq, Bool.not_true, Bool.not_false, decide_true, decide_false, c1e]
        exact fin
  · have e1 : ((p : Int) < 300) = False := eq_false (by omega)
    simp -implicitDefEqProofs only [RL0, RL1, RL2, RL3, RL4, RL5, RL6, RL7, RL8, RL9, chkW, ↓get_cons', ↓hget_cons', ↓hset_cons', St.gh, isNil, evalA, opTs, LOp.args, Nat.reduceBEq, renS, ren1, ren0, renB, only, sg, gmOf, wrN, buildCells, bsRows, Value.oneCell', setAt, eqCells, eqCell, vI, vB, vS, apartW, Nat.reduceEqDiff, Nat.reduceAdd, Nat.reduceSub, Nat.reduceMul, Nat.reduceLT, Nat.reduceLeDiff, Int.reduceEq, Int.reduceNe, Int.reduceLT, Int.reduceLE, reduceCtorEq, ↓reduceIte, ne_eq, eq_self, and_self, str_eq_iff, Int.toNat_natCast, cV, cR, e1]
    refine callL_of (told_spec16) [] false [] [] ?_ ?_
    · refine CallOk.of ?_ ?_ rfl ?_ rfl rfl rfl rfl ?_ rfl ?_ rfl
      all_goals simp [ML, args1, arg1, args0, lents1, lent1, lent0, lents0, lentB, rowsM, body0, only, sg, injB, apartB, keysOf, cur, resS, ↓get_cons', ↓hget_cons', Value.oneCell', eq_self, and_self, ne_eq, vI, rK_nil, rK_len, rK_take, rM_len, rM_take, Int.toNat_natCast, cV, cR]
    simp -implicitDefEqProofs only [RL0, RL1, RL2, RL3, RL4, RL5, RL6, RL7, RL8, RL9, chkW, ↓get_cons', ↓hget_cons', ↓hset_cons', St.gh, isNil, evalA, opTs, LOp.args, Nat.reduceBEq, renS, ren1, ren0, renB, only, sg, gmOf, wrN, buildCells, bsRows, Value.oneCell', setAt, eqCells, eqCell, vI, vB, vS, apartW, Nat.reduceEqDiff, Nat.reduceAdd, Nat.reduceSub, Nat.reduceMul, Nat.reduceLT, Nat.reduceLeDiff, Int.reduceEq, Int.reduceNe, Int.reduceLT, Int.reduceLE, reduceCtorEq, ↓reduceIte, ne_eq, eq_self, and_self, str_eq_iff, Int.toNat_natCast, cV, cR]
    refine callL_of (hnm) [(1000, 52)] true [25] [] ?_ ?_
    · refine CallOk.of ?_ ?_ rfl ?_ rfl rfl rfl rfl ?_ rfl ?_ rfl
      all_goals simp [ML, args1, arg1, args0, lents1, lent1, lent0, lents0, lentB, rowsM, body0, only, sg, injB, apartB, keysOf, cur, resS, ↓get_cons', ↓hget_cons', Value.oneCell', eq_self, and_self, ne_eq, vI, rK_nil, rK_len, rK_take, rM_len, rM_take, Int.toNat_natCast, cV, cR, S.flat2, S.flat1, S.flat, Body.flat, c_flat]
    simp -implicitDefEqProofs only [RL0, RL1, RL2, RL3, RL4, RL5, RL6, RL7, RL8, RL9, chkW, ↓get_cons', ↓hget_cons', ↓hset_cons', St.gh, isNil, evalA, opTs, LOp.args, Nat.reduceBEq, renS, ren1, ren0, renB, only, sg, gmOf, wrN, buildCells, bsRows, Value.oneCell', setAt, eqCells, eqCell, vI, vB, vS, apartW, Nat.reduceEqDiff, Nat.reduceAdd, Nat.reduceSub, Nat.reduceMul, Nat.reduceLT, Nat.reduceLeDiff, Int.reduceEq, Int.reduceNe, Int.reduceLT, Int.reduceLE, reduceCtorEq, ↓reduceIte, ne_eq, eq_self, and_self, str_eq_iff, Int.toNat_natCast, cV, cR]
    refine callL_of (hsame) [] true [52, 25] [] ?_ ?_
    · refine CallOk.of ?_ ?_ rfl ?_ rfl rfl rfl rfl ?_ rfl ?_ rfl
      all_goals simp [ML, args1, arg1, args0, lents1, lent1, lent0, lents0, lentB, rowsM, body0, only, sg, injB, apartB, keysOf, cur, resS, ↓get_cons', ↓hget_cons', Value.oneCell', eq_self, and_self, ne_eq, vI, rK_nil, rK_len, rK_take, rM_len, rM_take, Int.toNat_natCast, cV, cR, S.flat2, S.flat1, S.flat, Body.flat, c_flat]
    simp -implicitDefEqProofs only [RL0, RL1, RL2, RL3, RL4, RL5, RL6, RL7, RL8, RL9, chkW, ↓get_cons', ↓hget_cons', ↓hset_cons', St.gh, isNil, evalA, opTs, LOp.args, Nat.reduceBEq, renS, ren1, ren0, renB, only, sg, gmOf, wrN, buildCells, bsRows, Value.oneCell', setAt, eqCells, eqCell, vI, vB, vS, apartW, Nat.reduceEqDiff, Nat.reduceAdd, Nat.reduceSub, Nat.reduceMul, Nat.reduceLT, Nat.reduceLeDiff, Int.reduceEq, Int.reduceNe, Int.reduceLT, Int.reduceLE, reduceCtorEq, ↓reduceIte, ne_eq, eq_self, and_self, str_eq_iff, Int.toNat_natCast, cV, cR]
    refine RetOk.of [] [] ?_ ?_ rfl ?_ rfl rfl ?_
    all_goals simp [ML, args1, arg1, args0, lents1, lent1, lent0, lents0, lentB, rowsM, body0, only, sg, injB, apartB, keysOf, cur, resS, ↓get_cons', ↓hget_cons', Value.oneCell', eq_self, and_self, ne_eq, vI, rK_nil, Int.toNat_natCast, cV, cR]
end Go.Proofs.Ex
