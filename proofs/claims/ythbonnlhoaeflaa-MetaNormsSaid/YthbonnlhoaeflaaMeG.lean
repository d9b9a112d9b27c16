import Derived.Test.YthbonnlhoaeflaaMeF
set_option linter.unusedVariables false
set_option linter.unusedSimpArgs false
-- DEFS Int.toNat_natCast, attrS, attrR, aceS, aceR, metaS, metaC
namespace Go.Proofs.Me
open Go.RowKit Go.Lib Go.Eng Go.Proofs Go.IntWalk
set_option maxRecDepth 100000
set_option linter.unusedVariables false
set_option maxHeartbeats 2000000
theorem eq_getD {α : Type} [Inhabited α] {a b : List α} (h1 : a.length = b.length) (h2 : ∀ j, j < a.length → a.getD j default = b.getD j default) : a = b := by
  refine List.ext_getElem h1 fun j ha hb => ?_
  have := h2 j ha
  rwa [List.getD_eq_getElem?_getD, List.getD_eq_getElem?_getD, List.getElem?_eq_getElem ha, List.getElem?_eq_getElem hb] at this
theorem eqa_spec (a b : List At) (ha : a.length ≤ 5864062014634) (hb : b.length ≤ 5864062014634) : Eng.Spec Try.prog 46 [] [] [.d (.sl 2 (rM attrR a)), .d (.sl 2 (rM attrR b))] [] (.d (.v (.bool (decide (a = b))))) := by
  refine told_spec mixed f46_told f46_results f46_text rfl (by simp) rfl ?_
  simp only [initS, List.length_cons, List.length_nil, List.range, List.range.loop, List.getD_cons_zero, List.getD_cons_succ, List.cons_append, List.nil_append, Int.toNat_natCast, attrS, attrR, aceS, aceR, metaS, metaC]
  simp -implicitDefEqProofs only [RL0, RL1, RL2, RL3, RL4, RL5, RL6, RL7, RL8, chkW, ↓get_cons', ↓hget_cons', ↓hset_cons', St.gh, isNil, evalA, opTs, LOp.args, Nat.reduceBEq, renS, ren1, ren0, renB, only, sg, gmOf, wrN, buildCells, bsRows, Value.oneCell', setAt, eqCells, eqCell, vI, vB, vS, apartW, Nat.reduceEqDiff, Nat.reduceAdd, Nat.reduceSub, Nat.reduceMul, Nat.reduceLT, Nat.reduceLeDiff, Int.reduceEq, Int.reduceNe, Int.reduceLT, Int.reduceLE, reduceCtorEq, ↓reduceIte, ne_eq, eq_self, and_self, str_eq_iff]
  have hret : ∀ q : Bool, decide (a = b) = q → RetOk [4] { s := [(4, S.d (D.v (Value.bool q)))], h := [] } [] [] (S.d (D.v (Value.bool (decide (a = b))))) := by
    rintro q rfl
    refine RetOk.of [] [] ?_ ?_ rfl ?_ rfl rfl ?_
    all_goals simp [ML, args1, arg1, args0, lents1, lent1, lent0, lents0, lentB, rowsM, body0, only, sg, injB, apartB, keysOf, cur, resS, ↓get_cons', ↓hget_cons', Value.oneCell', eq_self, and_self, ne_eq, vI, rK_nil, Int.toNat_natCast, attrS, attrR, aceS, aceR, metaS, metaC]
  refine ⟨fun h => hret _ (decide_eq_false fun q => h (by rw [q])), fun h => ?_⟩
  have hlen : a.length = b.length := by omega
  refine vc_loop (fun k : Nat => ⟨[(13, .d (.v (.int .i64 k))), (1, .d (.sl 2 (rM attrR b))), (0, .d (.sl 2 (rM attrR a))), (12, .d (.v (.int .i64 a.length)))], []⟩)
    (fun k => k ≤ a.length ∧ ∀ j, j < k → a.getD j default = b.getD j default) (fun k => a.length - k) 0 ⟨by omega, by omega⟩ (LE.refl _ _) ?_
  rintro k ⟨g1, g2⟩
  have e3 : IntKind.i64.wrap ((k : Int) + 1) = ((k + 1 : Nat) : Int) := by rw [i64_in _ (by omega)]; omega
  simp -implicitDefEqProofs only [RL0, RL1, RL2, RL3, RL4, RL5, RL6, RL7, RL8, chkW, ↓get_cons', ↓hget_cons', ↓hset_cons', St.gh, isNil, evalA, opTs, LOp.args, Nat.reduceBEq, renS, ren1, ren0, renB, only, sg, gmOf, wrN, buildCells, bsRows, Value.oneCell', setAt, eqCells, eqCell, vI, vB, vS, apartW, Nat.reduceEqDiff, Nat.reduceAdd, Nat.reduceSub, Nat.reduceMul, Nat.reduceLT, Nat.reduceLeDiff, Int.reduceEq, Int.reduceNe, Int.reduceLT, Int.reduceLE, reduceCtorEq, ↓reduceIte, ne_eq, eq_self, and_self, str_eq_iff, Int.toNat_natCast, attrS, attrR, aceS, aceR, metaS, metaC, e3]
  refine ⟨fun h => ⟨by omega, by omega, by omega, by omega, fun h1 => hret _ (decide_eq_false fun q => h1 ?_), fun h1 => ⟨k + 1, ⟨by omega, fun j hj => ?_⟩, by omega, LE.refl _ _⟩⟩, fun h => hret _ (decide_eq_true (eq_getD hlen fun j hj => g2 j (by omega)))⟩
  · rw [q]; simp
  · by_cases e : j = k
    · subst e
      have h2 := Decidable.not_not.1 h1
      generalize a.getD j default = x at *
      generalize b.getD j default = y at *
      grind
    · exact g2 j (by omega)
theorem eqc_spec (a b : List Ac) (ha : a.length ≤ 5864062014634) (hb : b.length ≤ 5864062014634) : Eng.Spec Try.prog 59 [] [] [.d (.sl 3 (rM aceR a)), .d (.sl 3 (rM aceR b))] [] (.d (.v (.bool (decide (a = b))))) := by
  refine told_spec mixed f59_told f59_results f59_text rfl (by simp) rfl ?_
  simp only [initS, List.length_cons, List.length_nil, List.range, List.range.loop, List.getD_cons_zero, List.getD_cons_succ, List.cons_append, List.nil_append, Int.toNat_natCast, attrS, attrR, aceS, aceR, metaS, metaC]
  simp -implicitDefEqProofs only [RL0, RL1, RL2, RL3, RL4, RL5, RL6, RL7, RL8, chkW, ↓get_cons', ↓hget_cons', ↓hset_cons', St.gh, isNil, evalA, opTs, LOp.args, Nat.reduceBEq, renS, ren1, ren0, renB, only, sg, gmOf, wrN, buildCells, bsRows, Value.oneCell', setAt, eqCells, eqCell, vI, vB, vS, apartW, Nat.reduceEqDiff, Nat.reduceAdd, Nat.reduceSub, Nat.reduceMul, Nat.reduceLT, Nat.reduceLeDiff, Int.reduceEq, Int.reduceNe, Int.reduceLT, Int.reduceLE, reduceCtorEq, ↓reduceIte, ne_eq, eq_self, and_self, str_eq_iff]
  have hret : ∀ q : Bool, decide (a = b) = q → RetOk [4] { s := [(4, S.d (D.v (Value.bool q)))], h := [] } [] [] (S.d (D.v (Value.bool (decide (a = b))))) := by
    rintro q rfl
    refine RetOk.of [] [] ?_ ?_ rfl ?_ rfl rfl ?_
    all_goals simp [ML, args1, arg1, args0, lents1, lent1, lent0, lents0, lentB, rowsM, body0, only, sg, injB, apartB, keysOf, cur, resS, ↓get_cons', ↓hget_cons', Value.oneCell', eq_self, and_self, ne_eq, vI, rK_nil, Int.toNat_natCast, attrS, attrR, aceS, aceR, metaS, metaC]
  refine ⟨fun h => hret _ (decide_eq_false fun q => h (by rw [q])), fun h => ?_⟩
  have hlen : a.length = b.length := by omega
  refine vc_loop (fun k : Nat => ⟨[(13, .d (.v (.int .i64 k))), (1, .d (.sl 3 (rM aceR b))), (0, .d (.sl 3 (rM aceR a))), (12, .d (.v (.int .i64 a.length)))], []⟩)
    (fun k => k ≤ a.length ∧ ∀ j, j < k → a.getD j default = b.getD j default) (fun k => a.length - k) 0 ⟨by omega, by omega⟩ (LE.refl _ _) ?_
  rintro k ⟨g1, g2⟩
  have e3 : IntKind.i64.wrap ((k : Int) + 1) = ((k + 1 : Nat) : Int) := by rw [i64_in _ (by omega)]; omega
  simp -implicitDefEqProofs only [RL0, RL1, RL2, RL3, RL4, RL5, RL6, RL7, RL8, chkW, ↓get_cons', ↓hget_cons', ↓hset_cons', St.gh, isNil, evalA, opTs, LOp.args, Nat.reduceBEq, renS, ren1, ren0, renB, only, sg, gmOf, wrN, buildCells, bsRows, Value.oneCell', setAt, eqCells, eqCell, vI, vB, vS, apartW, Nat.reduceEqDiff, Nat.reduceAdd, Nat.reduceSub, Nat.reduceMul, Nat.reduceLT, Nat.reduceLeDiff, Int.reduceEq, Int.reduceNe, Int.reduceLT, Int.reduceLE, reduceCtorEq, ↓reduceIte, ne_eq, eq_self, and_self, str_eq_iff, Int.toNat_natCast, attrS, attrR, aceS, aceR, metaS, metaC, e3]
  refine ⟨fun h => ⟨by omega, by omega, by omega, by omega, fun h1 => hret _ (decide_eq_false fun q => h1 ?_), fun h1 => ⟨k + 1, ⟨by omega, fun j hj => ?_⟩, by omega, LE.refl _ _⟩⟩, fun h => hret _ (decide_eq_true (eq_getD hlen fun j hj => g2 j (by omega)))⟩
  · rw [q]; simp
  · by_cases e : j = k
    · subst e
      have h2 := Decidable.not_not.1 h1
      generalize a.getD j default = x at *
      generalize b.getD j default = y at *
      grind
    · exact g2 j (by omega)
theorem refeqa_spec (a b : List At) (ha : a.length ≤ 5864062014634) (hb : b.length ≤ 5864062014634) : Eng.Spec Try.prog 25 [] [] [.d (.sl 2 (rM attrR a)), .d (.sl 2 (rM attrR b))] [] (.d (.v (.bool (decide (a = b))))) := by
  refine told_spec mixed f25_told f25_results f25_text rfl (by simp) rfl ?_
  simp only [initS, List.length_cons, List.length_nil, List.range, List.range.loop, List.getD_cons_zero, List.getD_cons_succ, List.cons_append, List.nil_append, Int.toNat_natCast, attrS, attrR, aceS, aceR, metaS, metaC]
  simp -implicitDefEqProofs only [RL0, RL1, RL2, RL3, RL4, RL5, RL6, RL7, RL8, chkW, ↓get_cons', ↓hget_cons', ↓hset_cons', St.gh, isNil, evalA, opTs, LOp.args, Nat.reduceBEq, renS, ren1, ren0, renB, only, sg, gmOf, wrN, buildCells, bsRows, Value.oneCell', setAt, eqCells, eqCell, vI, vB, vS, apartW, Nat.reduceEqDiff, Nat.reduceAdd, Nat.reduceSub, Nat.reduceMul, Nat.reduceLT, Nat.reduceLeDiff, Int.reduceEq, Int.reduceNe, Int.reduceLT, Int.reduceLE, reduceCtorEq, ↓reduceIte, ne_eq, eq_self, and_self, str_eq_iff]
  have hret : ∀ q : Bool, decide (a = b) = q → RetOk [4] { s := [(4, S.d (D.v (Value.bool q)))], h := [] } [] [] (S.d (D.v (Value.bool (decide (a = b))))) := by
    rintro q rfl
    refine RetOk.of [] [] ?_ ?_ rfl ?_ rfl rfl ?_
    all_goals simp [ML, args1, arg1, args0, lents1, lent1, lent0, lents0, lentB, rowsM, body0, only, sg, injB, apartB, keysOf, cur, resS, ↓get_cons', ↓hget_cons', Value.oneCell', eq_self, and_self, ne_eq, vI, rK_nil, Int.toNat_natCast, attrS, attrR, aceS, aceR, metaS, metaC]
  refine ⟨fun h => hret _ (decide_eq_false fun q => h (by rw [q])), fun h => ?_⟩
  have hlen : a.length = b.length := by omega
  refine vc_loop (fun k : Nat => ⟨[(5, .d (.v (.int .i64 k))), (1, .d (.sl 2 (rM attrR b))), (0, .d (.sl 2 (rM attrR a)))], []⟩)
    (fun k => k ≤ a.length ∧ ∀ j, j < k → a.getD j default = b.getD j default) (fun k => a.length - k) 0 ⟨by omega, by omega⟩ (LE.refl _ _) ?_
  rintro k ⟨g1, g2⟩
  have e3 : IntKind.i64.wrap ((k : Int) + 1) = ((k + 1 : Nat) : Int) := by rw [i64_in _ (by omega)]; omega
  simp -implicitDefEqProofs only [RL0, RL1, RL2, RL3, RL4, RL5, RL6, RL7, RL8, chkW, ↓get_cons', ↓hget_cons', ↓hset_cons', St.gh, isNil, evalA, opTs, LOp.args, Nat.reduceBEq, renS, ren1, ren0, renB, only, sg, gmOf, wrN, buildCells, bsRows, Value.oneCell', setAt, eqCells, eqCell, vI, vB, vS, apartW, Nat.reduceEqDiff, Nat.reduceAdd, Nat.reduceSub, Nat.reduceMul, Nat.reduceLT, Nat.reduceLeDiff, Int.reduceEq, Int.reduceNe, Int.reduceLT, Int.reduceLE, reduceCtorEq, ↓reduceIte, ne_eq, eq_self, and_self, str_eq_iff, Int.toNat_natCast, attrS, attrR, aceS, aceR, metaS, metaC, e3]
  refine ⟨fun h => ⟨by omega, by omega, by omega, by omega, fun h1 => hret _ (decide_eq_false fun q => h1 ?_), fun h1 => ⟨k + 1, ⟨by omega, fun j hj => ?_⟩, by omega, LE.refl _ _⟩⟩, fun h => hret _ (decide_eq_true (eq_getD hlen fun j hj => g2 j (by omega)))⟩
  · rw [q]; simp
  · by_cases e : j = k
    · subst e
      have h2 := Decidable.not_not.1 h1
      generalize a.getD j default = x at *
      generalize b.getD j default = y at *
      grind
    · exact g2 j (by omega)
theorem refeqc_spec (a b : List Ac) (ha : a.length ≤ 5864062014634) (hb : b.length ≤ 5864062014634) : Eng.Spec Try.prog 48 [] [] [.d (.sl 3 (rM aceR a)), .d (.sl 3 (rM aceR b))] [] (.d (.v (.bool (decide (a = b))))) := by
  refine told_spec mixed f48_told f48_results f48_text rfl (by simp) rfl ?_
  simp only [initS, List.length_cons, List.length_nil, List.range, List.range.loop, List.getD_cons_zero, List.getD_cons_succ, List.cons_append, List.nil_append, Int.toNat_natCast, attrS, attrR, aceS, aceR, metaS, metaC]
  simp -implicitDefEqProofs only [RL0, RL1, RL2, RL3, RL4, RL5, RL6, RL7, RL8, chkW, ↓get_cons', ↓hget_cons', ↓hset_cons', St.gh, isNil, evalA, opTs, LOp.args, Nat.reduceBEq, renS, ren1, ren0, renB, only, sg, gmOf, wrN, buildCells, bsRows, Value.oneCell', setAt, eqCells, eqCell, vI, vB, vS, apartW, Nat.reduceEqDiff, Nat.reduceAdd, Nat.reduceSub, Nat.reduceMul, Nat.reduceLT, Nat.reduceLeDiff, Int.reduceEq, Int.reduceNe, Int.reduceLT, Int.reduceLE, reduceCtorEq, ↓reduceIte, ne_eq, eq_self, and_self, str_eq_iff]
  have hret : ∀ q : Bool, decide (a = b) = q → RetOk [4] { s := [(4, S.d (D.v (Value.bool q)))], h := [] } [] [] (S.d (D.v (Value.bool (decide (a = b))))) := by
    rintro q rfl
    refine RetOk.of [] [] ?_ ?_ rfl ?_ rfl rfl ?_
    all_goals simp [ML, args1, arg1, args0, lents1, lent1, lent0, lents0, lentB, rowsM, body0, only, sg, injB, apartB, keysOf, cur, resS, ↓get_cons', ↓hget_cons', Value.oneCell', eq_self, and_self, ne_eq, vI, rK_nil, Int.toNat_natCast, attrS, attrR, aceS, aceR, metaS, metaC]
  refine ⟨fun h => hret _ (decide_eq_false fun q => h (by rw [q])), fun h => ?_⟩
  have hlen : a.length = b.length := by omega
  refine vc_loop (fun k : Nat => ⟨[(5, .d (.v (.int .i64 k))), (1, .d (.sl 3 (rM aceR b))), (0, .d (.sl 3 (rM aceR a)))], []⟩)
    (fun k => k ≤ a.length ∧ ∀ j, j < k → a.getD j default = b.getD j default) (fun k => a.length - k) 0 ⟨by omega, by omega⟩ (LE.refl _ _) ?_
  rintro k ⟨g1, g2⟩
  have e3 : IntKind.i64.wrap ((k : Int) + 1) = ((k + 1 : Nat) : Int) := by rw [i64_in _ (by omega)]; omega
  simp -implicitDefEqProofs only [RL0, RL1, RL2, RL3, RL4, RL5, RL6, RL7, RL8, chkW, ↓get_cons', ↓hget_cons', ↓hset_cons', St.gh, isNil, evalA, opTs, LOp.args, Nat.reduceBEq, renS, ren1, ren0, renB, only, sg, gmOf, wrN, buildCells, bsRows, Value.oneCell', setAt, eqCells, eqCell, vI, vB, vS, apartW, Nat.reduceEqDiff, Nat.reduceAdd, Nat.reduceSub, Nat.reduceMul, Nat.reduceLT, Nat.reduceLeDiff, Int.reduceEq, Int.reduceNe, Int.reduceLT, Int.reduceLE, reduceCtorEq, ↓reduceIte, ne_eq, eq_self, and_self, str_eq_iff, Int.toNat_natCast, attrS, attrR, aceS, aceR, metaS, metaC, e3]
  refine ⟨fun h => ⟨by omega, by omega, by omega, by omega, fun h1 => hret _ (decide_eq_false fun q => h1 ?_), fun h1 => ⟨k + 1, ⟨by omega, fun j hj => ?_⟩, by omega, LE.refl _ _⟩⟩, fun h => hret _ (decide_eq_true (eq_getD hlen fun j hj => g2 j (by omega)))⟩
  · rw [q]; simp
  · by_cases e : j = k
    · subst e
      have h2 := Decidable.not_not.1 h1
      generalize a.getD j default = x at *
      generalize b.getD j default = y at *
      grind
    · exact g2 j (by omega)
theorem same_spec (a b : List Ac) (ha : a.length ≤ 5864062014634) (hb : b.length ≤ 5864062014634) : Eng.Spec Try.prog 47 [] [] [.d (.sl 3 (rM aceR a)), .d (.sl 3 (rM aceR b))] [] (.d (.v (.bool (decide (a = b))))) := by
  refine told_spec mixed f47_told f47_results f47_text rfl (by simp) rfl ?_
  simp only [initS, List.length_cons, List.length_nil, List.range, List.range.loop, List.getD_cons_zero, List.getD_cons_succ, List.cons_append, List.nil_append, Int.toNat_natCast, attrS, attrR, aceS, aceR, metaS, metaC]
  simp -implicitDefEqProofs only [RL0, RL1, RL2, RL3, RL4, RL5, RL6, RL7, RL8, chkW, ↓get_cons', ↓hget_cons', ↓hset_cons', St.gh, isNil, evalA, opTs, LOp.args, Nat.reduceBEq, renS, ren1, ren0, renB, only, sg, gmOf, wrN, buildCells, bsRows, Value.oneCell', setAt, eqCells, eqCell, vI, vB, vS, apartW, Nat.reduceEqDiff, Nat.reduceAdd, Nat.reduceSub, Nat.reduceMul, Nat.reduceLT, Nat.reduceLeDiff, Int.reduceEq, Int.reduceNe, Int.reduceLT, Int.reduceLE, reduceCtorEq, ↓reduceIte, ne_eq, eq_self, and_self, str_eq_iff]
  refine callL_of (eqc_spec a b ha hb) [] false [] [] ?_ ?_
  · refine CallOk.of ?_ ?_ rfl ?_ rfl rfl rfl rfl ?_ rfl ?_ rfl
    all_goals simp [ML, args1, arg1, args0, lents1, lent1, lent0, lents0, lentB, rowsM, body0, only, sg, injB, apartB, keysOf, cur, resS, ↓get_cons', ↓hget_cons', Value.oneCell', eq_self, and_self, ne_eq, vI, rK_nil, rK_len, rK_take, rM_len, rM_take, Int.toNat_natCast, attrS, attrR, aceS, aceR, metaS, metaC]
  simp -implicitDefEqProofs only [RL0, RL1, RL2, RL3, RL4, RL5, RL6, RL7, RL8, chkW, ↓get_cons', ↓hget_cons', ↓hset_cons', St.gh, isNil, evalA, opTs, LOp.args, Nat.reduceBEq, renS, ren1, ren0, renB, only, sg, gmOf, wrN, buildCells, bsRows, Value.oneCell', setAt, eqCells, eqCell, vI, vB, vS, apartW, Nat.reduceEqDiff, Nat.reduceAdd, Nat.reduceSub, Nat.reduceMul, Nat.reduceLT, Nat.reduceLeDiff, Int.reduceEq, Int.reduceNe, Int.reduceLT, Int.reduceLE, reduceCtorEq, ↓reduceIte, ne_eq, eq_self, and_self, str_eq_iff, Int.toNat_natCast, attrS, attrR, aceS, aceR, metaS, metaC]
  refine RetOk.of [] [] ?_ ?_ rfl ?_ rfl rfl ?_
  all_goals simp [ML, args1, arg1, args0, lents1, lent1, lent0, lents0, lentB, rowsM, body0, only, sg, injB, apartB, keysOf, cur, resS, ↓get_cons', ↓hget_cons', Value.oneCell', eq_self, and_self, ne_eq, vI, rK_nil, Int.toNat_natCast, attrS, attrR, aceS, aceR, metaS, metaC]
def diff (a b : M) : ByteArray :=
  if a.mode ≠ b.mode then ⟨#[109, 111, 100, 101]⟩ else if a.uid ≠ b.uid then ⟨#[117, 105, 100]⟩ else if a.gid ≠ b.gid then ⟨#[103, 105, 100]⟩ else if a.time ≠ b.time then ⟨#[116, 105, 109, 101]⟩ else if a.attrs ≠ b.attrs then ⟨#[97, 116, 116, 114, 115]⟩ else if a.acl ≠ b.acl then ⟨#[97, 99, 108]⟩ else ⟨#[]⟩
theorem diff_spec (a b : M) (ha : smallM a) (hb : smallM b) : Eng.Spec Try.prog 26 [] [] [metaS a, metaS b] [] (.d (.v (.string (diff a b)))) := by
  refine told_spec mixed f26_told f26_results f26_text rfl (by simp) rfl ?_
  simp only [initS, List.length_cons, List.length_nil, List.range, List.range.loop, List.getD_cons_zero, List.getD_cons_succ, List.cons_append, List.nil_append, Int.toNat_natCast, attrS, attrR, aceS, aceR, metaS, metaC]
  simp -implicitDefEqProofs only [RL0, RL1, RL2, RL3, RL4, RL5, RL6, RL7, RL8, chkW, ↓get_cons', ↓hget_cons', ↓hset_cons', St.gh, isNil, evalA, opTs, LOp.args, Nat.reduceBEq, renS, ren1, ren0, renB, only, sg, gmOf, wrN, buildCells, bsRows, Value.oneCell', setAt, eqCells, eqCell, vI, vB, vS, apartW, Nat.reduceEqDiff, Nat.reduceAdd, Nat.reduceSub, Nat.reduceMul, Nat.reduceLT, Nat.reduceLeDiff, Int.reduceEq, Int.reduceNe, Int.reduceLT, Int.reduceLE, reduceCtorEq, ↓reduceIte, ne_eq, eq_self, and_self, str_eq_iff]
  have hret : ∀ q : ByteArray, diff a b = q → RetOk [4] { s := [(4, S.d (D.v (Value.string q)))], h := [] } [] [] (S.d (D.v (Value.string (diff a b)))) := by
    rintro q rfl
    refine RetOk.of [] [] ?_ ?_ rfl ?_ rfl rfl ?_
    all_goals simp [ML, args1, arg1, args0, lents1, lent1, lent0, lents0, lentB, rowsM, body0, only, sg, injB, apartB, keysOf, cur, resS, ↓get_cons', ↓hget_cons', Value.oneCell', eq_self, and_self, ne_eq, vI, rK_nil, Int.toNat_natCast, attrS, attrR, aceS, aceR, metaS, metaC]
  refine ⟨fun h => hret _ (by unfold diff; rw [if_pos h]), fun h1 => ⟨fun h => hret _ (by unfold diff; rw [if_neg h1, if_pos h]), fun h2 => ⟨fun h => hret _ (by unfold diff; rw [if_neg h1, if_neg h2, if_pos h]), fun h3 => ⟨fun h => hret _ (by unfold diff; rw [if_neg h1, if_neg h2, if_neg h3, if_pos h]), fun h4 => ?_⟩⟩⟩⟩
  refine callL_of (eqa_spec a.attrs b.attrs (Nat.le_trans ha.1 (by decide)) (Nat.le_trans hb.1 (by decide))) [] false [] [] ?_ ?_
  · refine CallOk.of ?_ ?_ rfl ?_ rfl rfl rfl rfl ?_ rfl ?_ rfl
    all_goals simp [ML, args1, arg1, args0, lents1, lent1, lent0, lents0, lentB, rowsM, body0, only, sg, injB, apartB, keysOf, cur, resS, ↓get_cons', ↓hget_cons', Value.oneCell', eq_self, and_self, ne_eq, vI, rK_nil, rK_len, rK_take, rM_len, rM_take, Int.toNat_natCast, attrS, attrR, aceS, aceR, metaS, metaC]
  simp -implicitDefEqProofs only [RL0, RL1, RL2, RL3, RL4, RL5, RL6, RL7, RL8, chkW, ↓get_cons', ↓hget_cons', ↓hset_cons', St.gh, isNil, evalA, opTs, LOp.args, Nat.reduceBEq, renS, ren1, ren0, renB, only, sg, gmOf, wrN, buildCells, bsRows, Value.oneCell', setAt, eqCells, eqCell, vI, vB, vS, apartW, Nat.reduceEqDiff, Nat.reduceAdd, Nat.reduceSub, Nat.reduceMul, Nat.reduceLT, Nat.reduceLeDiff, Int.reduceEq, Int.reduceNe, Int.reduceLT, Int.reduceLE, reduceCtorEq, ↓reduceIte, ne_eq, eq_self, and_self, str_eq_iff, Int.toNat_natCast, attrS, attrR, aceS, aceR, metaS, metaC]
  refine ⟨fun h => hret _ (by unfold diff; rw [if_neg h1, if_neg h2, if_neg h3, if_neg h4, if_pos h]), fun h5 => ?_⟩
  refine callL_of (same_spec a.acl b.acl ha.2 hb.2) [] false [] [] ?_ ?_
  · refine CallOk.of ?_ ?_ rfl ?_ rfl rfl rfl rfl ?_ rfl ?_ rfl
    all_goals simp [ML, args1, arg1, args0, lents1, lent1, lent0, lents0, lentB, rowsM, body0, only, sg, injB, apartB, keysOf, cur, resS, ↓get_cons', ↓hget_cons', Value.oneCell', eq_self, and_self, ne_eq, vI, rK_nil, rK_len, rK_take, rM_len, rM_take, Int.toNat_natCast, attrS, attrR, aceS, aceR, metaS, metaC]
  simp -implicitDefEqProofs only [RL0, RL1, RL2, RL3, RL4, RL5, RL6, RL7, RL8, chkW, ↓get_cons', ↓hget_cons', ↓hset_cons', St.gh, isNil, evalA, opTs, LOp.args, Nat.reduceBEq, renS, ren1, ren0, renB, only, sg, gmOf, wrN, buildCells, bsRows, Value.oneCell', setAt, eqCells, eqCell, vI, vB, vS, apartW, Nat.reduceEqDiff, Nat.reduceAdd, Nat.reduceSub, Nat.reduceMul, Nat.reduceLT, Nat.reduceLeDiff, Int.reduceEq, Int.reduceNe, Int.reduceLT, Int.reduceLE, reduceCtorEq, ↓reduceIte, ne_eq, eq_self, and_self, str_eq_iff, Int.toNat_natCast, attrS, attrR, aceS, aceR, metaS, metaC]
  exact ⟨fun h => hret _ (by unfold diff; rw [if_neg h1, if_neg h2, if_neg h3, if_neg h4, if_neg h5, if_pos h]), fun h => hret _ (by unfold diff; rw [if_neg h1, if_neg h2, if_neg h3, if_neg h4, if_neg h5, if_neg h])⟩
theorem refdiff_spec (a b : M) (ha : smallM a) (hb : smallM b) : Eng.Spec Try.prog 27 [] [] [metaS a, metaS b] [] (.d (.v (.string (diff a b)))) := by
  refine told_spec mixed f27_told f27_results f27_text rfl (by simp) rfl ?_
  simp only [initS, List.length_cons, List.length_nil, List.range, List.range.loop, List.getD_cons_zero, List.getD_cons_succ, List.cons_append, List.nil_append, Int.toNat_natCast, attrS, attrR, aceS, aceR, metaS, metaC]
  simp -implicitDefEqProofs only [RL0, RL1, RL2, RL3, RL4, RL5, RL6, RL7, RL8, chkW, ↓get_cons', ↓hget_cons', ↓hset_cons', St.gh, isNil, evalA, opTs, LOp.args, Nat.reduceBEq, renS, ren1, ren0, renB, only, sg, gmOf, wrN, buildCells, bsRows, Value.oneCell', setAt, eqCells, eqCell, vI, vB, vS, apartW, Nat.reduceEqDiff, Nat.reduceAdd, Nat.reduceSub, Nat.reduceMul, Nat.reduceLT, Nat.reduceLeDiff, Int.reduceEq, Int.reduceNe, Int.reduceLT, Int.reduceLE, reduceCtorEq, ↓reduceIte, ne_eq, eq_self, and_self, str_eq_iff]
  have hret : ∀ q : ByteArray, diff a b = q → RetOk [4] { s := [(4, S.d (D.v (Value.string q)))], h := [] } [] [] (S.d (D.v (Value.string (diff a b)))) := by
    rintro q rfl
    refine RetOk.of [] [] ?_ ?_ rfl ?_ rfl rfl ?_
    all_goals simp [ML, args1, arg1, args0, lents1, lent1, lent0, lents0, lentB, rowsM, body0, only, sg, injB, apartB, keysOf, cur, resS, ↓get_cons', ↓hget_cons', Value.oneCell', eq_self, and_self, ne_eq, vI, rK_nil, Int.toNat_natCast, attrS, attrR, aceS, aceR, metaS, metaC]
  refine ⟨fun h => hret _ (by unfold diff; rw [if_pos h]), fun h1 => ⟨fun h => hret _ (by unfold diff; rw [if_neg h1, if_pos h]), fun h2 => ⟨fun h => hret _ (by unfold diff; rw [if_neg h1, if_neg h2, if_pos h]), fun h3 => ⟨fun h => hret _ (by unfold diff; rw [if_neg h1, if_neg h2, if_neg h3, if_pos h]), fun h4 => ?_⟩⟩⟩⟩
  refine callL_of (refeqa_spec a.attrs b.attrs (Nat.le_trans ha.1 (by decide)) (Nat.le_trans hb.1 (by decide))) [] false [] [] ?_ ?_
  · refine CallOk.of ?_ ?_ rfl ?_ rfl rfl rfl rfl ?_ rfl ?_ rfl
    all_goals simp [ML, args1, arg1, args0, lents1, lent1, lent0, lents0, lentB, rowsM, body0, only, sg, injB, apartB, keysOf, cur, resS, ↓get_cons', ↓hget_cons', Value.oneCell', eq_self, and_self, ne_eq, vI, rK_nil, rK_len, rK_take, rM_len, rM_take, Int.toNat_natCast, attrS, attrR, aceS, aceR, metaS, metaC]
  simp -implicitDefEqProofs only [RL0, RL1, RL2, RL3, RL4, RL5, RL6, RL7, RL8, chkW, ↓get_cons', ↓hget_cons', ↓hset_cons', St.gh, isNil, evalA, opTs, LOp.args, Nat.reduceBEq, renS, ren1, ren0, renB, only, sg, gmOf, wrN, buildCells, bsRows, Value.oneCell', setAt, eqCells, eqCell, vI, vB, vS, apartW, Nat.reduceEqDiff, Nat.reduceAdd, Nat.reduceSub, Nat.reduceMul, Nat.reduceLT, Nat.reduceLeDiff, Int.reduceEq, Int.reduceNe, Int.reduceLT, Int.reduceLE, reduceCtorEq, ↓reduceIte, ne_eq, eq_self, and_self, str_eq_iff, Int.toNat_natCast, attrS, attrR, aceS, aceR, metaS, metaC]
  refine ⟨fun h => hret _ (by unfold diff; rw [if_neg h1, if_neg h2, if_neg h3, if_neg h4, if_pos h]), fun h5 => ?_⟩
  refine callL_of (refeqc_spec a.acl b.acl ha.2 hb.2) [] false [] [] ?_ ?_
  · refine CallOk.of ?_ ?_ rfl ?_ rfl rfl rfl rfl ?_ rfl ?_ rfl
    all_goals simp [ML, args1, arg1, args0, lents1, lent1, lent0, lents0, lentB, rowsM, body0, only, sg, injB, apartB, keysOf, cur, resS, ↓get_cons', ↓hget_cons', Value.oneCell', eq_self, and_self, ne_eq, vI, rK_nil, rK_len, rK_take, rM_len, rM_take, Int.toNat_natCast, attrS, attrR, aceS, aceR, metaS, metaC]
  simp -implicitDefEqProofs only [RL0, RL1, RL2, RL3, RL4, RL5, RL6, RL7, RL8, chkW, ↓get_cons', ↓hget_cons', ↓hset_cons', St.gh, isNil, evalA, opTs, LOp.args, Nat.reduceBEq, renS, ren1, ren0, renB, only, sg, gmOf, wrN, buildCells, bsRows, Value.oneCell', setAt, eqCells, eqCell, vI, vB, vS, apartW, Nat.reduceEqDiff, Nat.reduceAdd, Nat.reduceSub, Nat.reduceMul, Nat.reduceLT, Nat.reduceLeDiff, Int.reduceEq, Int.reduceNe, Int.reduceLT, Int.reduceLE, reduceCtorEq, ↓reduceIte, ne_eq, eq_self, and_self, str_eq_iff, Int.toNat_natCast, attrS, attrR, aceS, aceR, metaS, metaC]
  exact ⟨fun h => hret _ (by unfold diff; rw [if_neg h1, if_neg h2, if_neg h3, if_neg h4, if_neg h5, if_pos h]), fun h => hret _ (by unfold diff; rw [if_neg h1, if_neg h2, if_neg h3, if_neg h4, if_neg h5, if_neg h])⟩
theorem samem_spec (a b : M) (ha : smallM a) (hb : smallM b) : Eng.Spec Try.prog 28 [] [] [metaS a, metaS b] [] (.d (.v (.bool (decide (diff a b = ⟨#[]⟩))))) := by
  refine told_spec mixed f28_told f28_results f28_text rfl (by simp) rfl ?_
  simp only [initS, List.length_cons, List.length_nil, List.range, List.range.loop, List.getD_cons_zero, List.getD_cons_succ, List.cons_append, List.nil_append, Int.toNat_natCast, attrS, attrR, aceS, aceR, metaS, metaC]
  simp -implicitDefEqProofs only [RL0, RL1, RL2, RL3, RL4, RL5, RL6, RL7, RL8, chkW, ↓get_cons', ↓hget_cons', ↓hset_cons', St.gh, isNil, evalA, opTs, LOp.args, Nat.reduceBEq, renS, ren1, ren0, renB, only, sg, gmOf, wrN, buildCells, bsRows, Value.oneCell', setAt, eqCells, eqCell, vI, vB, vS, apartW, Nat.reduceEqDiff, Nat.reduceAdd, Nat.reduceSub, Nat.reduceMul, Nat.reduceLT, Nat.reduceLeDiff, Int.reduceEq, Int.reduceNe, Int.reduceLT, Int.reduceLE, reduceCtorEq, ↓reduceIte, ne_eq, eq_self, and_self, str_eq_iff]
  refine callL_of (diff_spec a b ha hb) [] false [] [] ?_ ?_
  · refine CallOk.of ?_ ?_ rfl ?_ rfl rfl rfl rfl ?_ rfl ?_ rfl
    all_goals simp [ML, args1, arg1, args0, lents1, lent1, lent0, lents0, lentB, rowsM, body0, only, sg, injB, apartB, keysOf, cur, resS, ↓get_cons', ↓hget_cons', Value.oneCell', eq_self, and_self, ne_eq, vI, rK_nil, rK_len, rK_take, rM_len, rM_take, Int.toNat_natCast, attrS, attrR, aceS, aceR, metaS, metaC]
  simp -implicitDefEqProofs only [RL0, RL1, RL2, RL3, RL4, RL5, RL6, RL7, RL8, chkW, ↓get_cons', ↓hget_cons', ↓hset_cons', St.gh, isNil, evalA, opTs, LOp.args, Nat.reduceBEq, renS, ren1, ren0, renB, only, sg, gmOf, wrN, buildCells, bsRows, Value.oneCell', setAt, eqCells, eqCell, vI, vB, vS, apartW, Nat.reduceEqDiff, Nat.reduceAdd, Nat.reduceSub, Nat.reduceMul, Nat.reduceLT, Nat.reduceLeDiff, Int.reduceEq, Int.reduceNe, Int.reduceLT, Int.reduceLE, reduceCtorEq, ↓reduceIte, ne_eq, eq_self, and_self, str_eq_iff, Int.toNat_natCast, attrS, attrR, aceS, aceR, metaS, metaC]
  refine RetOk.of [] [] ?_ ?_ rfl ?_ rfl rfl ?_
  all_goals simp [ML, args1, arg1, args0, lents1, lent1, lent0, lents0, lentB, rowsM, body0, only, sg, injB, apartB, keysOf, cur, resS, ↓get_cons', ↓hget_cons', Value.oneCell', eq_self, and_self, ne_eq, vI, rK_nil, Int.toNat_natCast, attrS, attrR, aceS, aceR, metaS, metaC]
end Go.Proofs.Me
