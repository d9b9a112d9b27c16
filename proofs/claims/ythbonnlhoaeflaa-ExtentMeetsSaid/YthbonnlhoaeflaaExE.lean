import Derived.Test.YthbonnlhoaeflaaExD
set_option linter.unusedVariables false
set_option linter.unusedSimpArgs false
-- DEFS Int.toNat_natCast, cV, cR
namespace Go.Proofs.Ex
open Go.RowKit Go.Lib Go.Eng Go.Proofs Go.IntWalk
set_option maxRecDepth 100000
set_option linter.unusedVariables false
set_option maxHeartbeats 4000000
theorem foldl_ok : ∀ (s out : List Z), (∀ x ∈ out, okE x) → (∀ x ∈ s.foldl step out, okE x) ∧ (s.foldl step out).length ≤ out.length + s.length
  | [], out, h => ⟨h, Nat.le_refl _⟩
  | z :: s, out, h => by
    obtain ⟨h1, h2⟩ := foldl_ok s (step out z) (step_ok h)
    refine ⟨h1, ?_⟩
    have := step_len out z
    simp only [List.foldl_cons, List.length_cons]
    omega
theorem normL_ok (l : List Z) : (∀ x ∈ normL l, okE x) ∧ (normL l).length ≤ l.length := by
  have h := foldl_ok (sortR ltZ l) [] (by simp)
  rw [sortR_len] at h
  unfold normL
  exact ⟨h.1, by simpa using h.2⟩
/-- Does a place lie in one of these? -/
def inL (l : List Z) (p : Int) : Prop := ∃ z ∈ l, (z.1 : Int) ≤ p ∧ p < ((z.1 + z.2 : Nat) : Int)
instance (l : List Z) (p : Int) : Decidable (inL l p) := by unfold inL; infer_instance
theorem has_spec (l : List Z) (p : Int) (hok : ∀ z ∈ l, okZ z) (hl : l.length ≤ 2 ^ 30) : Eng.Spec Try.prog 15 [] [] [.d (.sl 1 (rM cR l)), .d (.v (.int .i64 p))] [] (.d (.v (.bool (decide (inL (normL l) p))))) := by
  obtain ⟨hn1, hn2⟩ := normL_ok l
  have hret : ∀ q : Bool, decide (inL (normL l) p) = q → RetOk [4] { s := [(4, S.d (D.v (Value.bool q)))], h := [] } [] [] (S.d (D.v (Value.bool (decide (inL (normL l) p))))) := by
    rintro q rfl
    refine RetOk.of [] [] ?_ ?_ rfl ?_ rfl rfl ?_
    all_goals simp [ML, args1, arg1, args0, lents1, lent1, lent0, lents0, lentB, rowsM, body0, only, sg, injB, apartB, keysOf, cur, resS, ↓get_cons', ↓hget_cons', Value.oneCell', eq_self, and_self, ne_eq, vI, rK_nil, Int.toNat_natCast, cV, cR]
  refine told_spec mixed f15_told f15_results f15_text rfl (by simp) rfl ?_
  simp only [initS, List.length_cons, List.length_nil, List.range, List.range.loop, List.getD_cons_zero, List.getD_cons_succ, List.cons_append, List.nil_append, Int.toNat_natCast, cV, cR]
  simp -implicitDefEqProofs only [RL0, RL1, RL2, RL3, RL4, RL5, RL6, RL7, RL8, RL9, chkW, ↓get_cons', ↓hget_cons', ↓hset_cons', St.gh, isNil, evalA, opTs, LOp.args, Nat.reduceBEq, renS, ren1, ren0, renB, only, sg, gmOf, wrN, buildCells, bsRows, Value.oneCell', setAt, eqCells, eqCell, vI, vB, vS, apartW, Nat.reduceEqDiff, Nat.reduceAdd, Nat.reduceSub, Nat.reduceMul, Nat.reduceLT, Nat.reduceLeDiff, Int.reduceEq, Int.reduceNe, Int.reduceLT, Int.reduceLE, reduceCtorEq, ↓reduceIte, ne_eq, eq_self, and_self, str_eq_iff]
  refine callL_of (norm_spec l hok hl) [(1000, 8)] false [] [] ?_ ?_
  · refine CallOk.of ?_ ?_ rfl ?_ rfl rfl rfl rfl ?_ rfl ?_ rfl
    all_goals simp [ML, args1, arg1, args0, lents1, lent1, lent0, lents0, lentB, rowsM, body0, only, sg, injB, apartB, keysOf, cur, resS, ↓get_cons', ↓hget_cons', Value.oneCell', eq_self, and_self, ne_eq, vI, rK_nil, rK_len, rK_take, rM_len, rM_take, Int.toNat_natCast, cV, cR]
  simp -implicitDefEqProofs only [RL0, RL1, RL2, RL3, RL4, RL5, RL6, RL7, RL8, RL9, chkW, ↓get_cons', ↓hget_cons', ↓hset_cons', St.gh, isNil, evalA, opTs, LOp.args, Nat.reduceBEq, renS, ren1, ren0, renB, only, sg, gmOf, wrN, buildCells, bsRows, Value.oneCell', setAt, eqCells, eqCell, vI, vB, vS, apartW, Nat.reduceEqDiff, Nat.reduceAdd, Nat.reduceSub, Nat.reduceMul, Nat.reduceLT, Nat.reduceLeDiff, Int.reduceEq, Int.reduceNe, Int.reduceLT, Int.reduceLE, reduceCtorEq, ↓reduceIte, ne_eq, eq_self, and_self, str_eq_iff, Int.toNat_natCast, cV, cR]
  generalize normL l = s at *
  refine vc_loop (fun k : Nat => ⟨[(10, .d (.v (.int .i64 k))), (1, .d (.v (.int .i64 p))), (8, .view 8 0 0 s.length), (9, .d (.v (.int .i64 s.length)))], [(8, ⟨0, .arr 1 (rM cR s)⟩)]⟩)
    (fun k => k ≤ s.length ∧ ∀ j, j < k → ¬ (((s.getD j default).1 : Int) ≤ p ∧ p < (((s.getD j default).1 + (s.getD j default).2 : Nat) : Int))) (fun k => s.length - k) 0 ⟨by omega, by omega⟩ (LE.refl _ _) ?_
  rintro k ⟨g1, g2⟩
  have e3 : IntKind.i64.wrap ((k : Int) + 1) = ((k + 1 : Nat) : Int) := by rw [i64_in _ (by omega)]; omega
  by_cases hk : k < s.length
  · have e1 : ((k : Int) < (s.length : Int)) = True := eq_true (by omega)
    have hz := hn1 _ (getD_mem (i := k) hk)
    generalize hzz : s.getD k default = z at *
    have fin : ¬ ((z.1 : Int) ≤ p ∧ p < ((z.1 + z.2 : Nat) : Int)) → ∃ y : Nat, (y ≤ s.length ∧ ∀ j, j < y → ¬ (((s.getD j default).1 : Int) ≤ p ∧ p < (((s.getD j default).1 + (s.getD j default).2 : Nat) : Int))) ∧ s.length - y < s.length - k ∧
        Eng.LE [] ⟨[(10, .d (.v (.int .i64 (k + 1 : Nat)))), (1, .d (.v (.int .i64 p))), (8, .view 8 0 0 s.length), (9, .d (.v (.int .i64 s.length)))], [(8, ⟨0, .arr 1 (rM cR s)⟩)]⟩
          ⟨[(10, .d (.v (.int .i64 y))), (1, .d (.v (.int .i64 p))), (8, .view 8 0 0 s.length), (9, .d (.v (.int .i64 s.length)))], [(8, ⟨0, .arr 1 (rM cR s)⟩)]⟩ := fun hno => by
      refine ⟨k + 1, ⟨by omega, fun j hj => ?_⟩, by omega, LE.refl _ _⟩
      by_cases e : j = k
      · subst e; rw [hzz]; exact hno
      · exact g2 j (by omega)
    simp -implicitDefEqProofs only [RL0, RL1, RL2, RL3, RL4, RL5, RL6, RL7, RL8, RL9, chkW, ↓get_cons', ↓hget_cons', ↓hset_cons', St.gh, isNil, evalA, opTs, LOp.args, Nat.reduceBEq, renS, ren1, ren0, renB, only, sg, gmOf, wrN, buildCells, bsRows, Value.oneCell', setAt, eqCells, eqCell, vI, vB, vS, apartW, Nat.reduceEqDiff, Nat.reduceAdd, Nat.reduceSub, Nat.reduceMul, Nat.reduceLT, Nat.reduceLeDiff, Int.reduceEq, Int.reduceNe, Int.reduceLT, Int.reduceLE, reduceCtorEq, ↓reduceIte, ne_eq, eq_self, and_self, str_eq_iff, Int.toNat_natCast, cV, cR, e1, e3, hzz]
    refine ⟨by omega, by omega, ?_⟩
    refine callL_of (at_spec z hz.okZ) [] false [] [] ?_ ?_
    · refine CallOk.of ?_ ?_ rfl ?_ rfl rfl rfl rfl ?_ rfl ?_ rfl
      all_goals simp [ML, args1, arg1, args0, lents1, lent1, lent0, lents0, lentB, rowsM, body0, only, sg, injB, apartB, keysOf, cur, resS, ↓get_cons', ↓hget_cons', Value.oneCell', eq_self, and_self, ne_eq, vI, rK_nil, rK_len, rK_take, rM_len, rM_take, Int.toNat_natCast, cV, cR, e3]
    simp -implicitDefEqProofs only [RL0, RL1, RL2, RL3, RL4, RL5, RL6, RL7, RL8, RL9, chkW, ↓get_cons', ↓hget_cons', ↓hset_cons', St.gh, isNil, evalA, opTs, LOp.args, Nat.reduceBEq, renS, ren1, ren0, renB, only, sg, gmOf, wrN, buildCells, bsRows, Value.oneCell', setAt, eqCells, eqCell, vI, vB, vS, apartW, Nat.reduceEqDiff, Nat.reduceAdd, Nat.reduceSub, Nat.reduceMul, Nat.reduceLT, Nat.reduceLeDiff, Int.reduceEq, Int.reduceNe, Int.reduceLT, Int.reduceLE, reduceCtorEq, ↓reduceIte, ne_eq, eq_self, and_self, str_eq_iff, Int.toNat_natCast, cV, cR, e3]
    refine ⟨fun h1 => ?_, fun h1 => fin (fun q => h1 q.1)⟩
    refine callL_of (end_spec z hz.okZ) [] false [] [] ?_ ?_
    · refine CallOk.of ?_ ?_ rfl ?_ rfl rfl rfl rfl ?_ rfl ?_ rfl
      all_goals simp [ML, args1, arg1, args0, lents1, lent1, lent0, lents0, lentB, rowsM, body0, only, sg, injB, apartB, keysOf, cur, resS, ↓get_cons', ↓hget_cons', Value.oneCell', eq_self, and_self, ne_eq, vI, rK_nil, rK_len, rK_take, rM_len, rM_take, Int.toNat_natCast, cV, cR, e3]
    simp -implicitDefEqProofs only [RL0, RL1, RL2, RL3, RL4, RL5, RL6, RL7, RL8, RL9, chkW, ↓get_cons', ↓hget_cons', ↓hset_cons', St.gh, isNil, evalA, opTs, LOp.args, Nat.reduceBEq, renS, ren1, ren0, renB, only, sg, gmOf, wrN, buildCells, bsRows, Value.oneCell', setAt, eqCells, eqCell, vI, vB, vS, apartW, Nat.reduceEqDiff, Nat.reduceAdd, Nat.reduceSub, Nat.reduceMul, Nat.reduceLT, Nat.reduceLeDiff, Int.reduceEq, Int.reduceNe, Int.reduceLT, Int.reduceLE, reduceCtorEq, ↓reduceIte, ne_eq, eq_self, and_self, str_eq_iff, Int.toNat_natCast, cV, cR, e3]
    refine ⟨fun h2 => hret _ (decide_eq_true ⟨z, by rw [← hzz]; exact getD_mem hk, h1, h2⟩), fun h2 => fin (fun q => h2 q.2)⟩
  · have hk' : k = s.length := by omega
    subst hk'
    have e1 : ((s.length : Int) < (s.length : Int)) = False := eq_false (by omega)
    simp -implicitDefEqProofs only [RL0, RL1, RL2, RL3, RL4, RL5, RL6, RL7, RL8, RL9, chkW, ↓get_cons', ↓hget_cons', ↓hset_cons', St.gh, isNil, evalA, opTs, LOp.args, Nat.reduceBEq, renS, ren1, ren0, renB, only, sg, gmOf, wrN, buildCells, bsRows, Value.oneCell', setAt, eqCells, eqCell, vI, vB, vS, apartW, Nat.reduceEqDiff, Nat.reduceAdd, Nat.reduceSub, Nat.reduceMul, Nat.reduceLT, Nat.reduceLeDiff, Int.reduceEq, Int.reduceNe, Int.reduceLT, Int.reduceLE, reduceCtorEq, ↓reduceIte, ne_eq, eq_self, and_self, str_eq_iff, Int.toNat_natCast, cV, cR, e1]
    refine hret _ (decide_eq_false ?_)
    rintro ⟨z, hz, hz2⟩
    obtain ⟨j, hj, e⟩ := List.getElem_of_mem hz
    refine g2 j hj ?_
    rw [List.getD_eq_getElem?_getD, List.getElem?_eq_getElem hj, Option.getD_some, e]
    exact hz2
end Go.Proofs.Ex
