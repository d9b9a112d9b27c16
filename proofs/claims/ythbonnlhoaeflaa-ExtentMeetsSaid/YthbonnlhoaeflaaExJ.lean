import Derived.Test.YthbonnlhoaeflaaExF
set_option linter.unusedVariables false
set_option linter.unusedSimpArgs false
-- DEFS Int.toNat_natCast, cV, cR
namespace Go.Proofs.Ex
open Go.RowKit Go.Lib Go.Eng Go.Proofs Go.IntWalk
set_option maxRecDepth 100000
set_option linter.unusedVariables false
set_option maxHeartbeats 4000000

def u64 (n : Int) : Nat := (IntKind.u64.wrap n).toNat
theorem u64_eq (n : Int) : IntKind.u64.wrap n = (u64 n : Int) ∧ u64 n < 2 ^ 64 := by
  have h : IntKind.u64.wrap n = n % 2 ^ 64 := by simp only [IntKind.wrap, IntKind.signed, IntKind.bits, Bool.false_and]; simp
  unfold u64
  rw [h]
  omega
def rowZ (n : Int) : Z := (u64 n % 250, u64 n / 250 % 20)
def rowL (l : List Int) : List Z := (l.take 20).map rowZ
theorem row_spec (l : List Int) (hl : l.length ≤ 2 ^ 50) : Eng.Spec Try.prog 10 [] [] [.d (.sl 1 (rK .i64 l))] [(1000, ⟨0, .arr 1 (rM cR (rowL l))⟩)] (.view 1000 0 0 (rowL l).length) := by
  refine told_spec mixed f10_told f10_results f10_text rfl (by simp) rfl ?_
  simp only [initS, List.length_cons, List.length_nil, List.range, List.range.loop, List.getD_cons_zero, List.getD_cons_succ, List.cons_append, List.nil_append, Int.toNat_natCast, cV, cR]
  simp -implicitDefEqProofs only [RL0, RL1, RL2, RL3, RL4, RL5, RL6, RL7, RL8, RL9, chkW, ↓get_cons', ↓hget_cons', ↓hset_cons', St.gh, isNil, evalA, opTs, LOp.args, Nat.reduceBEq, renS, ren1, ren0, renB, only, sg, gmOf, wrN, buildCells, bsRows, Value.oneCell', setAt, eqCells, eqCell, vI, vB, vS, apartW, Nat.reduceEqDiff, Nat.reduceAdd, Nat.reduceSub, Nat.reduceMul, Nat.reduceLT, Nat.reduceLeDiff, Int.reduceEq, Int.reduceNe, Int.reduceLT, Int.reduceLE, reduceCtorEq, ↓reduceIte, ne_eq, eq_self, and_self, str_eq_iff]
  refine vc_loop (fun k : Nat => ⟨[(4, .d (.v (.int .i64 k))), (0, .d (.sl 1 (rK .i64 l))), (3, .view 503 0 0 ((l.take k).map rowZ).length)], [(503, ⟨0, .arr 1 (rM cR ((l.take k).map rowZ))⟩)]⟩)
    (fun k => k ≤ l.length ∧ k ≤ 20) (fun k => l.length - k) 0 ⟨by omega, by omega⟩ (LE.refl _ _) ?_
  rintro k ⟨g1, g2⟩
  have e3 : IntKind.i64.wrap ((k : Int) + 1) = ((k + 1 : Nat) : Int) := by rw [i64_in _ (by omega)]; omega
  by_cases hk : k < l.length
  · have e1 : ((k : Int) < (l.length : Int)) = True := eq_true (by omega)
    by_cases h20 : k < 20
    · have e2 : ((k : Int) < 20) = True := eq_true (by omega)
      have hd : l.take (k + 1) = l.take k ++ [l.getD k default] := by
        rw [List.getD_eq_getElem?_getD, List.getElem?_eq_getElem hk]; exact (List.take_append_getElem hk).symm
      have hn : ∃ y : Nat, (y ≤ l.length ∧ y ≤ 20) ∧ l.length - y < l.length - k ∧ Eng.LE [] ⟨[(4, .d (.v (.int .i64 (k + 1 : Nat)))), (0, .d (.sl 1 (rK .i64 l))), (3, .view 503 0 0 ((l.take (k + 1)).map rowZ).length)], [(503, ⟨0, .arr 1 (rM cR ((l.take (k + 1)).map rowZ))⟩)]⟩ ⟨[(4, .d (.v (.int .i64 y))), (0, .d (.sl 1 (rK .i64 l))), (3, .view 503 0 0 ((l.take y).map rowZ).length)], [(503, ⟨0, .arr 1 (rM cR ((l.take y).map rowZ))⟩)]⟩ := ⟨k + 1, ⟨by omega, by omega⟩, by omega, LE.refl _ _⟩
      rw [hd, List.map_append, List.length_append] at hn
      generalize hzz : l.getD k default = n at *
      have hol : ((l.take k).map rowZ).length ≤ 20 := by simp; omega
      generalize (l.take k).map rowZ = out at *
      obtain ⟨u1, u2⟩ := u64_eq n
      have hrz : rowZ n = (u64 n % 250, u64 n / 250 % 20) := rfl
      simp only [List.map_cons, List.map_nil, List.length_cons, List.length_nil, hrz] at hn
      generalize u64 n = U at *
      have q1 : (U : Int).tmod 250 = ((U % 250 : Nat) : Int) := by rw [Int.tmod_eq_emod_of_nonneg (by omega)]; omega
      have q2 : IntKind.u64.wrap ((U : Int).tdiv 250) = ((U / 250 : Nat) : Int) := by
        rw [Int.tdiv_eq_ediv_of_nonneg (by omega)]
        have h := u64_eq ((U : Int) / 250)
        simp only [IntKind.wrap, IntKind.signed, IntKind.bits, Bool.false_and] at h ⊢
        simp
        omega
      have q3 : ((U / 250 : Nat) : Int).tmod 20 = ((U / 250 % 20 : Nat) : Int) := by rw [Int.tmod_eq_emod_of_nonneg (by omega)]; omega
      have hzz0 : l.getD k 0 = n := hzz
      simp -implicitDefEqProofs only [RL0, RL1, RL2, RL3, RL4, RL5, RL6, RL7, RL8, RL9, chkW, ↓get_cons', ↓hget_cons', ↓hset_cons', St.gh, isNil, evalA, opTs, LOp.args, Nat.reduceBEq, renS, ren1, ren0, renB, only, sg, gmOf, wrN, buildCells, bsRows, Value.oneCell', setAt, eqCells, eqCell, vI, vB, vS, apartW, Nat.reduceEqDiff, Nat.reduceAdd, Nat.reduceSub, Nat.reduceMul, Nat.reduceLT, Nat.reduceLeDiff, Int.reduceEq, Int.reduceNe, Int.reduceLT, Int.reduceLE, reduceCtorEq, ↓reduceIte, ne_eq, eq_self, and_self, str_eq_iff, Int.toNat_natCast, cV, cR, e1, e2, e3, hzz0, u1, q1, q2, q3, fl_fold, c_snoc]
      exact ⟨by omega, by omega, by omega, by omega, hn⟩
    · have e2 : ((k : Int) < 20) = False := eq_false (by omega)
      have hr : rowL l = (l.take k).map rowZ := by unfold rowL; congr 2; omega
      rw [hr]
      simp -implicitDefEqProofs only [RL0, RL1, RL2, RL3, RL4, RL5, RL6, RL7, RL8, RL9, chkW, ↓get_cons', ↓hget_cons', ↓hset_cons', St.gh, isNil, evalA, opTs, LOp.args, Nat.reduceBEq, renS, ren1, ren0, renB, only, sg, gmOf, wrN, buildCells, bsRows, Value.oneCell', setAt, eqCells, eqCell, vI, vB, vS, apartW, Nat.reduceEqDiff, Nat.reduceAdd, Nat.reduceSub, Nat.reduceMul, Nat.reduceLT, Nat.reduceLeDiff, Int.reduceEq, Int.reduceNe, Int.reduceLT, Int.reduceLE, reduceCtorEq, ↓reduceIte, ne_eq, eq_self, and_self, str_eq_iff, Int.toNat_natCast, cV, cR, e1, e2]
      refine RetOk.of [(1000, 503)] [] ?_ ?_ rfl ?_ rfl rfl ?_
      all_goals simp [ML, args1, arg1, args0, lents1, lent1, lent0, lents0, lentB, rowsM, body0, only, sg, injB, apartB, keysOf, cur, resS, ↓get_cons', ↓hget_cons', Value.oneCell', eq_self, and_self, ne_eq, vI, rK_nil, Int.toNat_natCast, cV, cR]
  · have hk' : k = l.length := by omega
    have e1 : ((k : Int) < (l.length : Int)) = False := eq_false (by omega)
    have hr : rowL l = (l.take k).map rowZ := by unfold rowL; rw [List.take_of_length_le (by omega), List.take_of_length_le (by omega)]
    rw [hr]
    simp -implicitDefEqProofs only [RL0, RL1, RL2, RL3, RL4, RL5, RL6, RL7, RL8, RL9, chkW, ↓get_cons', ↓hget_cons', ↓hset_cons', St.gh, isNil, evalA, opTs, LOp.args, Nat.reduceBEq, renS, ren1, ren0, renB, only, sg, gmOf, wrN, buildCells, bsRows, Value.oneCell', setAt, eqCells, eqCell, vI, vB, vS, apartW, Nat.reduceEqDiff, Nat.reduceAdd, Nat.reduceSub, Nat.reduceMul, Nat.reduceLT, Nat.reduceLeDiff, Int.reduceEq, Int.reduceNe, Int.reduceLT, Int.reduceLE, reduceCtorEq, ↓reduceIte, ne_eq, eq_self, and_self, str_eq_iff, Int.toNat_natCast, cV, cR, e1]
    refine RetOk.of [(1000, 503)] [] ?_ ?_ rfl ?_ rfl rfl ?_
    all_goals simp [ML, args1, arg1, args0, lents1, lent1, lent0, lents0, lentB, rowsM, body0, only, sg, injB, apartB, keysOf, cur, resS, ↓get_cons', ↓hget_cons', Value.oneCell', eq_self, and_self, ne_eq, vI, rK_nil, Int.toNat_natCast, cV, cR]
end Go.Proofs.Ex
