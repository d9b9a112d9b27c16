import Derived.Test.YthbonnlhoaeflaaMeD
import Derived.Test.YthbonnlhoaeflaaEngW
set_option linter.unusedVariables false
set_option linter.unusedSimpArgs false
-- DEFS Int.toNat_natCast, attrS, attrR, aceS, aceR
namespace Go.Proofs.Me
open Go.RowKit Go.Lib Go.Eng Go.Proofs Go.IntWalk
set_option maxRecDepth 100000
set_option maxHeartbeats 2000000
/-- The first k are good, and in order. -/
def okN {α : Type} [Inhabited α] (ok : α → Prop) (lt : α → α → Prop) (l : List α) (k : Nat) : Prop := ∀ j, j < k → ok (l.getD j default) ∧ (0 < j → lt (l.getD (j - 1) default) (l.getD j default))
theorem okN_zero {α : Type} [Inhabited α] (ok : α → Prop) (lt : α → α → Prop) (l : List α) : okN ok lt l 0 := fun _ h => absurd h (Nat.not_lt_zero _)
theorem okN_succ {α : Type} [Inhabited α] {ok : α → Prop} {lt : α → α → Prop} {l : List α} {k : Nat} (h : okN ok lt l k) (h1 : ok (l.getD k default)) (h2 : 0 < k → lt (l.getD (k - 1) default) (l.getD k default)) : okN ok lt l (k + 1) := fun j hj => by
  by_cases e : j = k
  · subst e; exact ⟨h1, h2⟩
  · exact h j (by omega)
instance {α : Type} [Inhabited α] (ok : α → Prop) (lt : α → α → Prop) [DecidablePred ok] [∀ a b, Decidable (lt a b)] (l : List α) (k : Nat) : Decidable (okN ok lt l k) := by unfold okN; infer_instance
def needsP (l : List Ac) : Prop := l.length ≠ 0 ∧ ∀ j, j < l.length → (l.getD j default).1 ≠ 3
instance (l : List Ac) : Decidable (needsP l) := by unfold needsP; infer_instance
theorem needs_spec (l : List Ac) (hl : l.length ≤ 5864062014634) : Eng.Spec Try.prog 58 [] [] [.d (.sl 3 (rM aceR l))] [] (.d (.v (.bool (decide (needsP l))))) := by
  refine told_spec mixed f58_told f58_results f58_text rfl (by simp) rfl ?_
  simp only [initS, List.length_cons, List.length_nil, List.range, List.range.loop, List.getD_cons_zero, List.getD_cons_succ, List.cons_append, List.nil_append, Int.toNat_natCast, attrS, attrR, aceS, aceR]
  simp -implicitDefEqProofs only [RL0, RL1, RL2, RL3, RL4, RL5, RL6, RL7, RL8, chkW, ↓get_cons', ↓hget_cons', ↓hset_cons', St.gh, isNil, evalA, opTs, LOp.args, Nat.reduceBEq, renS, ren1, ren0, renB, only, sg, gmOf, wrN, buildCells, bsRows, Value.oneCell', setAt, eqCells, eqCell, vI, vB, vS, apartW, Nat.reduceEqDiff, Nat.reduceAdd, Nat.reduceSub, Nat.reduceMul, Nat.reduceLT, Nat.reduceLeDiff, Int.reduceEq, Int.reduceNe, Int.reduceLT, Int.reduceLE, reduceCtorEq, ↓reduceIte, ne_eq, eq_self, and_self, str_eq_iff]
  have hret : ∀ q : Bool, decide (needsP l) = q → RetOk [2] { s := [(2, S.d (D.v (Value.bool q)))], h := [] } [] [] (S.d (D.v (Value.bool (decide (needsP l))))) := by
    rintro q rfl
    refine RetOk.of [] [] ?_ ?_ rfl ?_ rfl rfl ?_
    all_goals simp [ML, args1, arg1, args0, lents1, lent1, lent0, lents0, lentB, rowsM, body0, only, sg, injB, apartB, keysOf, cur, resS, ↓get_cons', ↓hget_cons', Value.oneCell', eq_self, and_self, ne_eq, vI, rK_nil, Int.toNat_natCast, attrS, attrR, aceS, aceR]
  refine vc_loop (fun k : Nat => ⟨[(3, .d (.v (.int .i64 k))), (0, .d (.sl 3 (rM aceR l)))], []⟩)
    (fun k => k ≤ l.length ∧ ∀ j, j < k → (l.getD j default).1 ≠ 3) (fun k => l.length - k) 0 ⟨by omega, by omega⟩ (LE.refl _ _) ?_
  rintro k ⟨g1, g2⟩
  have e3 : IntKind.i64.wrap ((k : Int) + 1) = ((k + 1 : Nat) : Int) := by rw [i64_in _ (by omega)]; omega
  simp -implicitDefEqProofs only [RL0, RL1, RL2, RL3, RL4, RL5, RL6, RL7, RL8, chkW, ↓get_cons', ↓hget_cons', ↓hset_cons', St.gh, isNil, evalA, opTs, LOp.args, Nat.reduceBEq, renS, ren1, ren0, renB, only, sg, gmOf, wrN, buildCells, bsRows, Value.oneCell', setAt, eqCells, eqCell, vI, vB, vS, apartW, Nat.reduceEqDiff, Nat.reduceAdd, Nat.reduceSub, Nat.reduceMul, Nat.reduceLT, Nat.reduceLeDiff, Int.reduceEq, Int.reduceNe, Int.reduceLT, Int.reduceLE, reduceCtorEq, ↓reduceIte, ne_eq, eq_self, and_self, str_eq_iff, Int.toNat_natCast, attrS, attrR, aceS, aceR, e3]
  refine ⟨fun h => ⟨by omega, by omega, fun hc => hret _ (decide_eq_false fun q => q.2 k (by omega) hc), fun hc => ⟨k + 1, ⟨by omega, fun j hj => ?_⟩, by omega, LE.refl _ _⟩⟩, fun h => hret _ ?_⟩
  · by_cases e : j = k
    · subst e; exact hc
    · exact g2 j (by omega)
  · rw [decide_eq_decide]
    exact ⟨fun q => by have := q.1; omega, fun q => ⟨by omega, fun j hj => g2 j (by omega)⟩⟩
abbrev okAs (l : List Ac) (k : Nat) : Prop := okN aceOk (fun a b => cmpA a b < 0) l k
def mayA (l : List Ac) : Prop := okAs l l.length ∧ l.length ≤ 16 ∧ (l.length = 0 ∨ (l.getD (l.length - 1) default).1 = 3)
instance (l : List Ac) : Decidable (mayA l) := by unfold mayA; infer_instance
theorem mayacl_spec (l : List Ac) (hl : l.length ≤ 5864062014634) : Eng.Spec Try.prog 44 [] [] [.d (.sl 3 (rM aceR l))] [] (.d (.v (.bool (decide (mayA l))))) := by
  refine told_spec mixed f44_told f44_results f44_text rfl (by simp) rfl ?_
  simp only [initS, List.length_cons, List.length_nil, List.range, List.range.loop, List.getD_cons_zero, List.getD_cons_succ, List.cons_append, List.nil_append, Int.toNat_natCast, attrS, attrR, aceS, aceR]
  simp -implicitDefEqProofs only [RL0, RL1, RL2, RL3, RL4, RL5, RL6, RL7, RL8, chkW, ↓get_cons', ↓hget_cons', ↓hset_cons', St.gh, isNil, evalA, opTs, LOp.args, Nat.reduceBEq, renS, ren1, ren0, renB, only, sg, gmOf, wrN, buildCells, bsRows, Value.oneCell', setAt, eqCells, eqCell, vI, vB, vS, apartW, Nat.reduceEqDiff, Nat.reduceAdd, Nat.reduceSub, Nat.reduceMul, Nat.reduceLT, Nat.reduceLeDiff, Int.reduceEq, Int.reduceNe, Int.reduceLT, Int.reduceLE, reduceCtorEq, ↓reduceIte, ne_eq, eq_self, and_self, str_eq_iff]
  have hret : ∀ q : Bool, decide (mayA l) = q → RetOk [2] { s := [(2, S.d (D.v (Value.bool q)))], h := [] } [] [] (S.d (D.v (Value.bool (decide (mayA l))))) := by
    rintro q rfl
    refine RetOk.of [] [] ?_ ?_ rfl ?_ rfl rfl ?_
    all_goals simp [ML, args1, arg1, args0, lents1, lent1, lent0, lents0, lentB, rowsM, body0, only, sg, injB, apartB, keysOf, cur, resS, ↓get_cons', ↓hget_cons', Value.oneCell', eq_self, and_self, ne_eq, vI, rK_nil, Int.toNat_natCast, attrS, attrR, aceS, aceR]
  refine vc_scope' (fun k : Nat => ⟨[(3, .d (.v (.int .i64 k))), (0, .d (.sl 3 (rM aceR l)))], []⟩)
    (fun k => k ≤ l.length ∧ okAs l k) (fun k => l.length - k) ?_ ?_
  · rintro k ⟨g1, g2⟩
    have e3 : IntKind.i64.wrap ((k : Int) + 1) = ((k + 1 : Nat) : Int) := by rw [i64_in _ (by omega)]; omega
    simp -implicitDefEqProofs only [RL0, RL1, RL2, RL3, RL4, RL5, RL6, RL7, RL8, chkW, ↓get_cons', ↓hget_cons', ↓hset_cons', St.gh, isNil, evalA, opTs, LOp.args, Nat.reduceBEq, renS, ren1, ren0, renB, only, sg, gmOf, wrN, buildCells, bsRows, Value.oneCell', setAt, eqCells, eqCell, vI, vB, vS, apartW, Nat.reduceEqDiff, Nat.reduceAdd, Nat.reduceSub, Nat.reduceMul, Nat.reduceLT, Nat.reduceLeDiff, Int.reduceEq, Int.reduceNe, Int.reduceLT, Int.reduceLE, reduceCtorEq, ↓reduceIte, ne_eq, eq_self, and_self, str_eq_iff, Int.toNat_natCast, attrS, attrR, aceS, aceR]
    refine ⟨fun h => ⟨by omega, by omega, ?_⟩, fun h => ?_⟩
    · refine callL_of (agood_spec (l.getD k default)) [] false [] [] ?_ ?_
      · refine CallOk.of ?_ ?_ rfl ?_ rfl rfl rfl rfl ?_ rfl ?_ rfl
        all_goals simp [ML, args1, arg1, args0, lents1, lent1, lent0, lents0, lentB, rowsM, body0, only, sg, injB, apartB, keysOf, cur, resS, ↓get_cons', ↓hget_cons', Value.oneCell', eq_self, and_self, ne_eq, vI, rK_nil, rK_len, rK_take, rM_len, rM_take, Int.toNat_natCast, attrS, attrR, aceS, aceR, e3]
      simp -implicitDefEqProofs only [RL0, RL1, RL2, RL3, RL4, RL5, RL6, RL7, RL8, chkW, ↓get_cons', ↓hget_cons', ↓hset_cons', St.gh, isNil, evalA, opTs, LOp.args, Nat.reduceBEq, renS, ren1, ren0, renB, only, sg, gmOf, wrN, buildCells, bsRows, Value.oneCell', setAt, eqCells, eqCell, vI, vB, vS, apartW, Nat.reduceEqDiff, Nat.reduceAdd, Nat.reduceSub, Nat.reduceMul, Nat.reduceLT, Nat.reduceLeDiff, Int.reduceEq, Int.reduceNe, Int.reduceLT, Int.reduceLE, reduceCtorEq, ↓reduceIte, ne_eq, eq_self, and_self, str_eq_iff, Int.toNat_natCast, attrS, attrR, aceS, aceR, e3]
      have hbad : ¬ aceOk (l.getD k default) → decide (mayA l) = false := fun h1 => decide_eq_false fun q => h1 (q.1 k (by omega)).1
      refine ⟨fun h1 => ?_, fun h1 => hret _ (hbad h1)⟩
      have h1' : aceOk (l.getD k default) := Decidable.not_not.1 h1
      refine ⟨fun h2 => ?_, fun h2 => ⟨k + 1, ⟨by omega, okN_succ g2 h1' (fun q => absurd q (by omega))⟩, by omega, LE.refl _ _⟩⟩
      have e2 : IntKind.i64.wrap ((k : Int) - 1) = ((k - 1 : Nat) : Int) := by rw [i64_in _ (by omega)]; omega
      rw [e2]
      refine ⟨by omega, by omega, by omega, by omega, ?_⟩
      refine callL_of (aorder_spec (l.getD (k - 1) default) (l.getD k default)) [] false [] [] ?_ ?_
      · refine CallOk.of ?_ ?_ rfl ?_ rfl rfl rfl rfl ?_ rfl ?_ rfl
        all_goals simp [ML, args1, arg1, args0, lents1, lent1, lent0, lents0, lentB, rowsM, body0, only, sg, injB, apartB, keysOf, cur, resS, ↓get_cons', ↓hget_cons', Value.oneCell', eq_self, and_self, ne_eq, vI, rK_nil, rK_len, rK_take, rM_len, rM_take, Int.toNat_natCast, attrS, attrR, aceS, aceR, e3]
      simp -implicitDefEqProofs only [RL0, RL1, RL2, RL3, RL4, RL5, RL6, RL7, RL8, chkW, ↓get_cons', ↓hget_cons', ↓hset_cons', St.gh, isNil, evalA, opTs, LOp.args, Nat.reduceBEq, renS, ren1, ren0, renB, only, sg, gmOf, wrN, buildCells, bsRows, Value.oneCell', setAt, eqCells, eqCell, vI, vB, vS, apartW, Nat.reduceEqDiff, Nat.reduceAdd, Nat.reduceSub, Nat.reduceMul, Nat.reduceLT, Nat.reduceLeDiff, Int.reduceEq, Int.reduceNe, Int.reduceLT, Int.reduceLE, reduceCtorEq, ↓reduceIte, ne_eq, eq_self, and_self, str_eq_iff, Int.toNat_natCast, attrS, attrR, aceS, aceR, e3]
      exact ⟨fun h3 => hret _ (decide_eq_false fun q => absurd ((q.1 k (by omega)).2 (by omega)) (by omega)), fun h3 => ⟨k + 1, ⟨by omega, okN_succ g2 h1' (fun _ => by omega)⟩, by omega, LE.refl _ _⟩⟩
    · have hk : k = l.length := by omega
      subst hk
      refine ⟨fun h1 => ⟨fun h2 => ?_, fun h2 => hret _ (decide_eq_true ⟨g2, by omega, .inl (by omega)⟩)⟩, fun h1 => hret _ (decide_eq_false fun q => h1 (by have := q.2.1; omega))⟩
      have e2 : IntKind.i64.wrap ((l.length : Int) - 1) = ((l.length - 1 : Nat) : Int) := by rw [i64_in _ (by omega)]; omega
      rw [e2]
      refine ⟨by omega, by omega, hret _ ?_⟩
      rw [decide_eq_decide, Int.toNat_natCast]
      exact ⟨fun q => q.2.2.resolve_left (by omega), fun q => ⟨g2, by omega, .inr q⟩⟩
  · intro hp
    simp -implicitDefEqProofs only [RL0, RL1, RL2, RL3, RL4, RL5, RL6, RL7, RL8, chkW, ↓get_cons', ↓hget_cons', ↓hset_cons', St.gh, isNil, evalA, opTs, LOp.args, Nat.reduceBEq, renS, ren1, ren0, renB, only, sg, gmOf, wrN, buildCells, bsRows, Value.oneCell', setAt, eqCells, eqCell, vI, vB, vS, apartW, Nat.reduceEqDiff, Nat.reduceAdd, Nat.reduceSub, Nat.reduceMul, Nat.reduceLT, Nat.reduceLeDiff, Int.reduceEq, Int.reduceNe, Int.reduceLT, Int.reduceLE, reduceCtorEq, ↓reduceIte, ne_eq, eq_self, and_self, str_eq_iff, Int.toNat_natCast, attrS, attrR, aceS, aceR]
    exact vc_label_in 0 (LE.of [] [] (by simp [ML, args1, arg1, args0, lents1, lent1, lent0, lents0, lentB, rowsM, body0, only, sg, injB, apartB, keysOf, cur, resS, ↓get_cons', ↓hget_cons', Value.oneCell', eq_self, and_self, ne_eq]) (by simp [ML, args1, arg1, args0, lents1, lent1, lent0, lents0, lentB, rowsM, body0, only, sg, injB, apartB, keysOf, cur, resS, ↓get_cons', ↓hget_cons', Value.oneCell', eq_self, and_self, ne_eq]) rfl (by simp [ML, args1, arg1, args0, lents1, lent1, lent0, lents0, lentB, rowsM, body0, only, sg, injB, apartB, keysOf, cur, resS, ↓get_cons', ↓hget_cons', Value.oneCell', eq_self, and_self, ne_eq]) rfl rfl) (hp 0 ⟨by omega, okN_zero _ _ _⟩)
def mayR (l : List Ac) : Prop := okAs l l.length ∧ l.length ≤ 16 ∧ ¬ needsP l
instance (l : List Ac) : Decidable (mayR l) := by unfold mayR; infer_instance
theorem refmayacl_spec (l : List Ac) (hl : l.length ≤ 5864062014634) : Eng.Spec Try.prog 45 [] [] [.d (.sl 3 (rM aceR l))] [] (.d (.v (.bool (decide (mayR l))))) := by
  refine told_spec mixed f45_told f45_results f45_text rfl (by simp) rfl ?_
  simp only [initS, List.length_cons, List.length_nil, List.range, List.range.loop, List.getD_cons_zero, List.getD_cons_succ, List.cons_append, List.nil_append, Int.toNat_natCast, attrS, attrR, aceS, aceR]
  simp -implicitDefEqProofs only [RL0, RL1, RL2, RL3, RL4, RL5, RL6, RL7, RL8, chkW, ↓get_cons', ↓hget_cons', ↓hset_cons', St.gh, isNil, evalA, opTs, LOp.args, Nat.reduceBEq, renS, ren1, ren0, renB, only, sg, gmOf, wrN, buildCells, bsRows, Value.oneCell', setAt, eqCells, eqCell, vI, vB, vS, apartW, Nat.reduceEqDiff, Nat.reduceAdd, Nat.reduceSub, Nat.reduceMul, Nat.reduceLT, Nat.reduceLeDiff, Int.reduceEq, Int.reduceNe, Int.reduceLT, Int.reduceLE, reduceCtorEq, ↓reduceIte, ne_eq, eq_self, and_self, str_eq_iff]
  have hret : ∀ q : Bool, decide (mayR l) = q → RetOk [2] { s := [(2, S.d (D.v (Value.bool q)))], h := [] } [] [] (S.d (D.v (Value.bool (decide (mayR l))))) := by
    rintro q rfl
    refine RetOk.of [] [] ?_ ?_ rfl ?_ rfl rfl ?_
    all_goals simp [ML, args1, arg1, args0, lents1, lent1, lent0, lents0, lentB, rowsM, body0, only, sg, injB, apartB, keysOf, cur, resS, ↓get_cons', ↓hget_cons', Value.oneCell', eq_self, and_self, ne_eq, vI, rK_nil, Int.toNat_natCast, attrS, attrR, aceS, aceR]
  refine vc_loop (fun k : Nat => ⟨[(3, .d (.v (.int .i64 k))), (0, .d (.sl 3 (rM aceR l)))], []⟩)
    (fun k => k ≤ l.length ∧ okAs l k) (fun k => l.length - k) 0 ⟨by omega, okN_zero _ _ _⟩ (LE.refl _ _) ?_
  rintro k ⟨g1, g2⟩
  have e3 : IntKind.i64.wrap ((k : Int) + 1) = ((k + 1 : Nat) : Int) := by rw [i64_in _ (by omega)]; omega
  simp -implicitDefEqProofs only [RL0, RL1, RL2, RL3, RL4, RL5, RL6, RL7, RL8, chkW, ↓get_cons', ↓hget_cons', ↓hset_cons', St.gh, isNil, evalA, opTs, LOp.args, Nat.reduceBEq, renS, ren1, ren0, renB, only, sg, gmOf, wrN, buildCells, bsRows, Value.oneCell', setAt, eqCells, eqCell, vI, vB, vS, apartW, Nat.reduceEqDiff, Nat.reduceAdd, Nat.reduceSub, Nat.reduceMul, Nat.reduceLT, Nat.reduceLeDiff, Int.reduceEq, Int.reduceNe, Int.reduceLT, Int.reduceLE, reduceCtorEq, ↓reduceIte, ne_eq, eq_self, and_self, str_eq_iff, Int.toNat_natCast, attrS, attrR, aceS, aceR]
  refine ⟨fun h => ⟨by omega, by omega, ?_⟩, fun h => ?_⟩
  · refine callL_of (reface_spec (l.getD k default)) [] false [] [] ?_ ?_
    · refine CallOk.of ?_ ?_ rfl ?_ rfl rfl rfl rfl ?_ rfl ?_ rfl
      all_goals simp [ML, args1, arg1, args0, lents1, lent1, lent0, lents0, lentB, rowsM, body0, only, sg, injB, apartB, keysOf, cur, resS, ↓get_cons', ↓hget_cons', Value.oneCell', eq_self, and_self, ne_eq, vI, rK_nil, rK_len, rK_take, rM_len, rM_take, Int.toNat_natCast, attrS, attrR, aceS, aceR, e3]
    simp -implicitDefEqProofs only [RL0, RL1, RL2, RL3, RL4, RL5, RL6, RL7, RL8, chkW, ↓get_cons', ↓hget_cons', ↓hset_cons', St.gh, isNil, evalA, opTs, LOp.args, Nat.reduceBEq, renS, ren1, ren0, renB, only, sg, gmOf, wrN, buildCells, bsRows, Value.oneCell', setAt, eqCells, eqCell, vI, vB, vS, apartW, Nat.reduceEqDiff, Nat.reduceAdd, Nat.reduceSub, Nat.reduceMul, Nat.reduceLT, Nat.reduceLeDiff, Int.reduceEq, Int.reduceNe, Int.reduceLT, Int.reduceLE, reduceCtorEq, ↓reduceIte, ne_eq, eq_self, and_self, str_eq_iff, Int.toNat_natCast, attrS, attrR, aceS, aceR, e3]
    have hbad : ¬ aceOk (l.getD k default) → decide (mayR l) = false := fun h1 => decide_eq_false fun q => h1 (q.1 k (by omega)).1
    refine ⟨fun h1 => ?_, fun h1 => hret _ (hbad h1)⟩
    have h1' : aceOk (l.getD k default) := Decidable.not_not.1 h1
    refine ⟨fun h2 => ?_, fun h2 => ⟨k + 1, ⟨by omega, okN_succ g2 h1' (fun q => absurd q (by omega))⟩, by omega, LE.refl _ _⟩⟩
    have e2 : IntKind.i64.wrap ((k : Int) - 1) = ((k - 1 : Nat) : Int) := by rw [i64_in _ (by omega)]; omega
    rw [e2]
    refine ⟨by omega, by omega, by omega, by omega, ?_⟩
    refine callL_of (reface_less (l.getD (k - 1) default) (l.getD k default)) [] false [] [] ?_ ?_
    · refine CallOk.of ?_ ?_ rfl ?_ rfl rfl rfl rfl ?_ rfl ?_ rfl
      all_goals simp [ML, args1, arg1, args0, lents1, lent1, lent0, lents0, lentB, rowsM, body0, only, sg, injB, apartB, keysOf, cur, resS, ↓get_cons', ↓hget_cons', Value.oneCell', eq_self, and_self, ne_eq, vI, rK_nil, rK_len, rK_take, rM_len, rM_take, Int.toNat_natCast, attrS, attrR, aceS, aceR, e3]
    simp -implicitDefEqProofs only [RL0, RL1, RL2, RL3, RL4, RL5, RL6, RL7, RL8, chkW, ↓get_cons', ↓hget_cons', ↓hset_cons', St.gh, isNil, evalA, opTs, LOp.args, Nat.reduceBEq, renS, ren1, ren0, renB, only, sg, gmOf, wrN, buildCells, bsRows, Value.oneCell', setAt, eqCells, eqCell, vI, vB, vS, apartW, Nat.reduceEqDiff, Nat.reduceAdd, Nat.reduceSub, Nat.reduceMul, Nat.reduceLT, Nat.reduceLeDiff, Int.reduceEq, Int.reduceNe, Int.reduceLT, Int.reduceLE, reduceCtorEq, ↓reduceIte, ne_eq, eq_self, and_self, str_eq_iff, Int.toNat_natCast, attrS, attrR, aceS, aceR, e3]
    exact ⟨fun h3 => hret _ (decide_eq_false fun q => h3 ((q.1 k (by omega)).2 (by omega))), fun h3 => ⟨k + 1, ⟨by omega, okN_succ g2 h1' (fun _ => Decidable.not_not.1 h3)⟩, by omega, LE.refl _ _⟩⟩
  · have hk : k = l.length := by omega
    subst hk
    refine ⟨fun h1 => ?_, fun h1 => hret _ (decide_eq_false fun q => h1 (by have := q.2.1; omega))⟩
    refine callL_of (needs_spec l hl) [] false [] [] ?_ ?_
    · refine CallOk.of ?_ ?_ rfl ?_ rfl rfl rfl rfl ?_ rfl ?_ rfl
      all_goals simp [ML, args1, arg1, args0, lents1, lent1, lent0, lents0, lentB, rowsM, body0, only, sg, injB, apartB, keysOf, cur, resS, ↓get_cons', ↓hget_cons', Value.oneCell', eq_self, and_self, ne_eq, vI, rK_nil, rK_len, rK_take, rM_len, rM_take, Int.toNat_natCast, attrS, attrR, aceS, aceR]
    simp -implicitDefEqProofs only [RL0, RL1, RL2, RL3, RL4, RL5, RL6, RL7, RL8, chkW, ↓get_cons', ↓hget_cons', ↓hset_cons', St.gh, isNil, evalA, opTs, LOp.args, Nat.reduceBEq, renS, ren1, ren0, renB, only, sg, gmOf, wrN, buildCells, bsRows, Value.oneCell', setAt, eqCells, eqCell, vI, vB, vS, apartW, Nat.reduceEqDiff, Nat.reduceAdd, Nat.reduceSub, Nat.reduceMul, Nat.reduceLT, Nat.reduceLeDiff, Int.reduceEq, Int.reduceNe, Int.reduceLT, Int.reduceLE, reduceCtorEq, ↓reduceIte, ne_eq, eq_self, and_self, str_eq_iff, Int.toNat_natCast, attrS, attrR, aceS, aceR]
    refine hret _ ?_
    rw [decide_eq_decide]
    exact ⟨fun q => q.2.2, fun q => ⟨g2, by omega, q⟩⟩
/-- Both Mays of aces are one. -/
theorem may_both (l : List Ac) : mayR l ↔ mayA l := by
  unfold mayR mayA
  refine and_congr_right fun h1 => and_congr_right fun _ => ?_
  unfold needsP
  constructor
  · intro h
    by_cases e : l.length = 0
    · exact .inl e
    · right
      obtain ⟨j, hj, hj3⟩ : ∃ j, j < l.length ∧ (l.getD j default).1 = 3 :=
        Classical.byContradiction fun q => h ⟨e, fun j hj h3 => q ⟨j, hj, h3⟩⟩
      by_cases e2 : j = l.length - 1
      · rw [← e2]; exact hj3
      · exfalso
        obtain ⟨⟨a1, a2, a3, a4, a5, a6, a7⟩, _⟩ := h1 j hj
        obtain ⟨⟨b1, b2, b3, b4, b5, b6, b7⟩, b8⟩ := h1 (j + 1) (by omega)
        have b9 := b8 (by omega)
        rw [Nat.add_sub_cancel] at b9
        generalize l.getD j default = x at *
        generalize l.getD (j + 1) default = y at *
        unfold cmpA cmpI at b9
        grind
  · rintro h ⟨h2, h3⟩
    rcases h with h | h
    · exact h2 h
    · exact h3 (l.length - 1) (by omega) h
end Go.Proofs.Me
