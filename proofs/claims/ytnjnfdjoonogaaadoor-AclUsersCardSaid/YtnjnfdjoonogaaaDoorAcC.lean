import Derived.Test.YtnjnfdjoonogaaaDoorAcB
import Derived.Test.YtnjnfdjoonogaaaDoorEngW
set_option linter.unusedVariables false
set_option linter.unusedSimpArgs false
-- DEFS Int.toNat_natCast, aceR, aceS
namespace Go.Proofs.Ac
open Go.RowKit Go.Lib Go.Eng Go.Proofs Go.IntWalk
set_option maxRecDepth 100000
set_option linter.unusedVariables false
set_option maxHeartbeats 2000000
/-- The first k are good, and in order. -/
def okN {α : Type} [Inhabited α] (ok : α → Prop) (lt : α → α → Prop) (l : List α) (k : Nat) : Prop := ∀ j, j < k → ok (l.getD j default) ∧ (0 < j → lt (l.getD (j - 1) default) (l.getD j default))
theorem okN_zero {α : Type} [Inhabited α] (ok : α → Prop) (lt : α → α → Prop) (l : List α) : okN ok lt l 0 := fun _ h => absurd h (Nat.not_lt_zero _)
theorem okN_succ {α : Type} [Inhabited α] {ok : α → Prop} {lt : α → α → Prop} {l : List α} {k : Nat} (h : okN ok lt l k) (h1 : ok (l.getD k default)) (h2 : 0 < k → lt (l.getD (k - 1) default) (l.getD k default)) : okN ok lt l (k + 1) := fun j hj => by
  by_cases e : j = k
  · subst e; exact ⟨h1, h2⟩
  · exact h j (by omega)
instance {α : Type} [Inhabited α] (ok : α → Prop) (lt : α → α → Prop) [DecidablePred ok] [∀ a b, Decidable (lt a b)] (l : List α) (k : Nat) : Decidable (okN ok lt l k) := by unfold okN; infer_instance
abbrev okAs (l : List Ac) (k : Nat) : Prop := okN aceOk (fun a b => cmpA a b < 0) l k
def mayA (l : List Ac) : Prop := okAs l l.length ∧ l.length ≤ 16 ∧ (l.length = 0 ∨ (l.getD (l.length - 1) default).1 = 3)
instance (l : List Ac) : Decidable (mayA l) := by unfold mayA; infer_instance
theorem mayacl_spec (l : List Ac) (hl : l.length ≤ 5864062014634) : Eng.Spec Tryd.prog 9 [] [] [.d (.sl 3 (rM aceR l))] [] (.d (.v (.bool (decide (mayA l))))) := by
  refine told_spec mixed f9_told f9_results f9_text rfl (by simp) rfl ?_
  simp only [initS, List.length_cons, List.length_nil, List.range, List.range.loop, List.getD_cons_zero, List.getD_cons_succ, List.cons_append, List.nil_append, Int.toNat_natCast, aceR, aceS]
  simp -implicitDefEqProofs only [RL0, RL1, RL2, RL3, RL4, RL5, RL6, RL7, RL8, chkW, ↓get_cons', ↓hget_cons', ↓hset_cons', St.gh, isNil, evalA, opTs, LOp.args, Nat.reduceBEq, renS, ren1, ren0, renB, only, sg, gmOf, wrN, buildCells, bsRows, Value.oneCell', setAt, eqCells, eqCell, vI, vB, vS, apartW, Nat.reduceEqDiff, Nat.reduceAdd, Nat.reduceSub, Nat.reduceMul, Nat.reduceLT, Nat.reduceLeDiff, Int.reduceEq, Int.reduceNe, Int.reduceLT, Int.reduceLE, reduceCtorEq, ↓reduceIte, ne_eq, eq_self, and_self, str_eq_iff]
  have hret : ∀ q : Bool, decide (mayA l) = q → RetOk [2] { s := [(2, S.d (D.v (Value.bool q)))], h := [] } [] [] (S.d (D.v (Value.bool (decide (mayA l))))) := by
    rintro q rfl
    refine RetOk.of [] [] ?_ ?_ rfl ?_ rfl rfl ?_
    all_goals simp [ML, args1, arg1, args0, lents1, lent1, lent0, lents0, lentB, rowsM, body0, only, sg, injB, apartB, keysOf, cur, resS, ↓get_cons', ↓hget_cons', Value.oneCell', eq_self, and_self, ne_eq, vI, rK_nil, Int.toNat_natCast, aceR, aceS]
  refine vc_scope' (fun k : Nat => ⟨[(3, .d (.v (.int .i64 k))), (0, .d (.sl 3 (rM aceR l)))], []⟩)
    (fun k => k ≤ l.length ∧ okAs l k) (fun k => l.length - k) ?_ ?_
  · rintro k ⟨g1, g2⟩
    have e3 : IntKind.i64.wrap ((k : Int) + 1) = ((k + 1 : Nat) : Int) := by rw [i64_in _ (by omega)]; omega
    simp -implicitDefEqProofs only [RL0, RL1, RL2, RL3, RL4, RL5, RL6, RL7, RL8, chkW, ↓get_cons', ↓hget_cons', ↓hset_cons', St.gh, isNil, evalA, opTs, LOp.args, Nat.reduceBEq, renS, ren1, ren0, renB, only, sg, gmOf, wrN, buildCells, bsRows, Value.oneCell', setAt, eqCells, eqCell, vI, vB, vS, apartW, Nat.reduceEqDiff, Nat.reduceAdd, Nat.reduceSub, Nat.reduceMul, Nat.reduceLT, Nat.reduceLeDiff, Int.reduceEq, Int.reduceNe, Int.reduceLT, Int.reduceLE, reduceCtorEq, ↓reduceIte, ne_eq, eq_self, and_self, str_eq_iff, Int.toNat_natCast, aceR, aceS]
    refine ⟨fun h => ⟨by omega, by omega, ?_⟩, fun h => ?_⟩
    · refine callL_of (agood_spec (l.getD k default)) [] false [] [] ?_ ?_
      · refine CallOk.of ?_ ?_ rfl ?_ rfl rfl rfl rfl ?_ rfl ?_ rfl
        all_goals simp [ML, args1, arg1, args0, lents1, lent1, lent0, lents0, lentB, rowsM, body0, only, sg, injB, apartB, keysOf, cur, resS, ↓get_cons', ↓hget_cons', Value.oneCell', eq_self, and_self, ne_eq, vI, rK_nil, rK_len, rK_take, rM_len, rM_take, Int.toNat_natCast, aceR, aceS, e3]
      simp -implicitDefEqProofs only [RL0, RL1, RL2, RL3, RL4, RL5, RL6, RL7, RL8, chkW, ↓get_cons', ↓hget_cons', ↓hset_cons', St.gh, isNil, evalA, opTs, LOp.args, Nat.reduceBEq, renS, ren1, ren0, renB, only, sg, gmOf, wrN, buildCells, bsRows, Value.oneCell', setAt, eqCells, eqCell, vI, vB, vS, apartW, Nat.reduceEqDiff, Nat.reduceAdd, Nat.reduceSub, Nat.reduceMul, Nat.reduceLT, Nat.reduceLeDiff, Int.reduceEq, Int.reduceNe, Int.reduceLT, Int.reduceLE, reduceCtorEq, ↓reduceIte, ne_eq, eq_self, and_self, str_eq_iff, Int.toNat_natCast, aceR, aceS, e3]
      have hbad : ¬ aceOk (l.getD k default) → decide (mayA l) = false := fun h1 => decide_eq_false fun q => h1 (q.1 k (by omega)).1
      refine ⟨fun h1 => ?_, fun h1 => hret _ (hbad h1)⟩
      have h1' : aceOk (l.getD k default) := Decidable.not_not.1 h1
      refine ⟨fun h2 => ?_, fun h2 => ⟨k + 1, ⟨by omega, okN_succ g2 h1' (fun q => absurd q (by omega))⟩, by omega, LE.refl _ _⟩⟩
      have e2 : IntKind.i64.wrap ((k : Int) - 1) = ((k - 1 : Nat) : Int) := by rw [i64_in _ (by omega)]; omega
      rw [e2]
      refine ⟨by omega, by omega, by omega, by omega, ?_⟩
      refine callL_of (aorder_spec (l.getD (k - 1) default) (l.getD k default)) [] false [] [] ?_ ?_
      · refine CallOk.of ?_ ?_ rfl ?_ rfl rfl rfl rfl ?_ rfl ?_ rfl
        all_goals simp [ML, args1, arg1, args0, lents1, lent1, lent0, lents0, lentB, rowsM, body0, only, sg, injB, apartB, keysOf, cur, resS, ↓get_cons', ↓hget_cons', Value.oneCell', eq_self, and_self, ne_eq, vI, rK_nil, rK_len, rK_take, rM_len, rM_take, Int.toNat_natCast, aceR, aceS, e3]
      simp -implicitDefEqProofs only [RL0, RL1, RL2, RL3, RL4, RL5, RL6, RL7, RL8, chkW, ↓get_cons', ↓hget_cons', ↓hset_cons', St.gh, isNil, evalA, opTs, LOp.args, Nat.reduceBEq, renS, ren1, ren0, renB, only, sg, gmOf, wrN, buildCells, bsRows, Value.oneCell', setAt, eqCells, eqCell, vI, vB, vS, apartW, Nat.reduceEqDiff, Nat.reduceAdd, Nat.reduceSub, Nat.reduceMul, Nat.reduceLT, Nat.reduceLeDiff, Int.reduceEq, Int.reduceNe, Int.reduceLT, Int.reduceLE, reduceCtorEq, ↓reduceIte, ne_eq, eq_self, and_self, str_eq_iff, Int.toNat_natCast, aceR, aceS, e3]
      exact ⟨fun h3 => hret _ (decide_eq_false fun q => absurd ((q.1 k (by omega)).2 (by omega)) (by omega)), fun h3 => ⟨k + 1, ⟨by omega, okN_succ g2 h1' (fun _ => by omega)⟩, by omega, LE.refl _ _⟩⟩
    · have hk : k = l.length := by omega
      subst hk
      refine ⟨fun h1 => ⟨fun h2 => ?_, fun h2 => hret _ (decide_eq_true ⟨g2, by omega, .inl (by omega)⟩)⟩, fun h1 => hret _ (decide_eq_false fun q => h1 (by have := q.2.1; omega))⟩
      have e2 : IntKind.i64.wrap ((l.length : Int) - 1) = ((l.length - 1 : Nat) : Int) := by rw [i64_in _ (by omega)]; omega
      rw [e2]
      refine ⟨by omega, by omega, hret _ ?_⟩
      rw [decide_eq_decide, Int.toNat_natCast]
      exact ⟨fun q => q.2.2.resolve_left (by omega), fun q => ⟨g2, by omega, .inr q⟩⟩
  · intro hp
    simp -implicitDefEqProofs only [RL0, RL1, RL2, RL3, RL4, RL5, RL6, RL7, RL8, chkW, ↓get_cons', ↓hget_cons', ↓hset_cons', St.gh, isNil, evalA, opTs, LOp.args, Nat.reduceBEq, renS, ren1, ren0, renB, only, sg, gmOf, wrN, buildCells, bsRows, Value.oneCell', setAt, eqCells, eqCell, vI, vB, vS, apartW, Nat.reduceEqDiff, Nat.reduceAdd, Nat.reduceSub, Nat.reduceMul, Nat.reduceLT, Nat.reduceLeDiff, Int.reduceEq, Int.reduceNe, Int.reduceLT, Int.reduceLE, reduceCtorEq, ↓reduceIte, ne_eq, eq_self, and_self, str_eq_iff, Int.toNat_natCast, aceR, aceS]
    exact vc_label_in 0 (LE.of [] [] (by simp [ML, args1, arg1, args0, lents1, lent1, lent0, lents0, lentB, rowsM, body0, only, sg, injB, apartB, keysOf, cur, resS, ↓get_cons', ↓hget_cons', Value.oneCell', eq_self, and_self, ne_eq]) (by simp [ML, args1, arg1, args0, lents1, lent1, lent0, lents0, lentB, rowsM, body0, only, sg, injB, apartB, keysOf, cur, resS, ↓get_cons', ↓hget_cons', Value.oneCell', eq_self, and_self, ne_eq]) rfl (by simp [ML, args1, arg1, args0, lents1, lent1, lent0, lents0, lentB, rowsM, body0, only, sg, injB, apartB, keysOf, cur, resS, ↓get_cons', ↓hget_cons', Value.oneCell', eq_self, and_self, ne_eq]) rfl rfl) (hp 0 ⟨by omega, okN_zero _ _ _⟩)
theorem eq_getD {α : Type} [Inhabited α] {a b : List α} (h1 : a.length = b.length) (h2 : ∀ j, j < a.length → a.getD j default = b.getD j default) : a = b := by
  refine List.ext_getElem h1 fun j ha hb => ?_
  have := h2 j ha
  rwa [List.getD_eq_getElem?_getD, List.getD_eq_getElem?_getD, List.getElem?_eq_getElem ha, List.getElem?_eq_getElem hb] at this
theorem eqc_spec (a b : List Ac) (ha : a.length ≤ 5864062014634) (hb : b.length ≤ 5864062014634) : Eng.Spec Tryd.prog 16 [] [] [.d (.sl 3 (rM aceR a)), .d (.sl 3 (rM aceR b))] [] (.d (.v (.bool (decide (a = b))))) := by
  refine told_spec mixed f16_told f16_results f16_text rfl (by simp) rfl ?_
  simp only [initS, List.length_cons, List.length_nil, List.range, List.range.loop, List.getD_cons_zero, List.getD_cons_succ, List.cons_append, List.nil_append, Int.toNat_natCast, aceR, aceS]
  simp -implicitDefEqProofs only [RL0, RL1, RL2, RL3, RL4, RL5, RL6, RL7, RL8, chkW, ↓get_cons', ↓hget_cons', ↓hset_cons', St.gh, isNil, evalA, opTs, LOp.args, Nat.reduceBEq, renS, ren1, ren0, renB, only, sg, gmOf, wrN, buildCells, bsRows, Value.oneCell', setAt, eqCells, eqCell, vI, vB, vS, apartW, Nat.reduceEqDiff, Nat.reduceAdd, Nat.reduceSub, Nat.reduceMul, Nat.reduceLT, Nat.reduceLeDiff, Int.reduceEq, Int.reduceNe, Int.reduceLT, Int.reduceLE, reduceCtorEq, ↓reduceIte, ne_eq, eq_self, and_self, str_eq_iff]
  have hret : ∀ q : Bool, decide (a = b) = q → RetOk [4] { s := [(4, S.d (D.v (Value.bool q)))], h := [] } [] [] (S.d (D.v (Value.bool (decide (a = b))))) := by
    rintro q rfl
    refine RetOk.of [] [] ?_ ?_ rfl ?_ rfl rfl ?_
    all_goals simp [ML, args1, arg1, args0, lents1, lent1, lent0, lents0, lentB, rowsM, body0, only, sg, injB, apartB, keysOf, cur, resS, ↓get_cons', ↓hget_cons', Value.oneCell', eq_self, and_self, ne_eq, vI, rK_nil, Int.toNat_natCast, aceR, aceS]
  refine ⟨fun h => hret _ (decide_eq_false fun q => h (by rw [q])), fun h => ?_⟩
  have hlen : a.length = b.length := by omega
  refine vc_loop (fun k : Nat => ⟨[(13, .d (.v (.int .i64 k))), (1, .d (.sl 3 (rM aceR b))), (0, .d (.sl 3 (rM aceR a))), (12, .d (.v (.int .i64 a.length)))], []⟩)
    (fun k => k ≤ a.length ∧ ∀ j, j < k → a.getD j default = b.getD j default) (fun k => a.length - k) 0 ⟨by omega, by omega⟩ (LE.refl _ _) ?_
  rintro k ⟨g1, g2⟩
  have e3 : IntKind.i64.wrap ((k : Int) + 1) = ((k + 1 : Nat) : Int) := by rw [i64_in _ (by omega)]; omega
  simp -implicitDefEqProofs only [RL0, RL1, RL2, RL3, RL4, RL5, RL6, RL7, RL8, chkW, ↓get_cons', ↓hget_cons', ↓hset_cons', St.gh, isNil, evalA, opTs, LOp.args, Nat.reduceBEq, renS, ren1, ren0, renB, only, sg, gmOf, wrN, buildCells, bsRows, Value.oneCell', setAt, eqCells, eqCell, vI, vB, vS, apartW, Nat.reduceEqDiff, Nat.reduceAdd, Nat.reduceSub, Nat.reduceMul, Nat.reduceLT, Nat.reduceLeDiff, Int.reduceEq, Int.reduceNe, Int.reduceLT, Int.reduceLE, reduceCtorEq, ↓reduceIte, ne_eq, eq_self, and_self, str_eq_iff, Int.toNat_natCast, aceR, aceS, e3]
  refine ⟨fun h => ⟨by omega, by omega, by omega, by omega, fun h1 => hret _ (decide_eq_false fun q => h1 ?_), fun h1 => ⟨k + 1, ⟨by omega, fun j hj => ?_⟩, by omega, LE.refl _ _⟩⟩, fun h => hret _ (decide_eq_true (eq_getD hlen fun j hj => g2 j (by omega)))⟩
  · rw [q]; simp
  · by_cases e : j = k
    · subst e
      have h2 := Decidable.not_not.1 h1
      generalize a.getD j default = x at *
      generalize b.getD j default = y at *
      grind
    · exact g2 j (by omega)
theorem same_spec (a b : List Ac) (ha : a.length ≤ 5864062014634) (hb : b.length ≤ 5864062014634) : Eng.Spec Tryd.prog 8 [] [] [.d (.sl 3 (rM aceR a)), .d (.sl 3 (rM aceR b))] [] (.d (.v (.bool (decide (a = b))))) := by
  refine told_spec mixed f8_told f8_results f8_text rfl (by simp) rfl ?_
  simp only [initS, List.length_cons, List.length_nil, List.range, List.range.loop, List.getD_cons_zero, List.getD_cons_succ, List.cons_append, List.nil_append, Int.toNat_natCast, aceR, aceS]
  simp -implicitDefEqProofs only [RL0, RL1, RL2, RL3, RL4, RL5, RL6, RL7, RL8, chkW, ↓get_cons', ↓hget_cons', ↓hset_cons', St.gh, isNil, evalA, opTs, LOp.args, Nat.reduceBEq, renS, ren1, ren0, renB, only, sg, gmOf, wrN, buildCells, bsRows, Value.oneCell', setAt, eqCells, eqCell, vI, vB, vS, apartW, Nat.reduceEqDiff, Nat.reduceAdd, Nat.reduceSub, Nat.reduceMul, Nat.reduceLT, Nat.reduceLeDiff, Int.reduceEq, Int.reduceNe, Int.reduceLT, Int.reduceLE, reduceCtorEq, ↓reduceIte, ne_eq, eq_self, and_self, str_eq_iff]
  refine callL_of (eqc_spec a b ha hb) [] false [] [] ?_ ?_
  · refine CallOk.of ?_ ?_ rfl ?_ rfl rfl rfl rfl ?_ rfl ?_ rfl
    all_goals simp [ML, args1, arg1, args0, lents1, lent1, lent0, lents0, lentB, rowsM, body0, only, sg, injB, apartB, keysOf, cur, resS, ↓get_cons', ↓hget_cons', Value.oneCell', eq_self, and_self, ne_eq, vI, rK_nil, rK_len, rK_take, rM_len, rM_take, Int.toNat_natCast, aceR, aceS]
  simp -implicitDefEqProofs only [RL0, RL1, RL2, RL3, RL4, RL5, RL6, RL7, RL8, chkW, ↓get_cons', ↓hget_cons', ↓hset_cons', St.gh, isNil, evalA, opTs, LOp.args, Nat.reduceBEq, renS, ren1, ren0, renB, only, sg, gmOf, wrN, buildCells, bsRows, Value.oneCell', setAt, eqCells, eqCell, vI, vB, vS, apartW, Nat.reduceEqDiff, Nat.reduceAdd, Nat.reduceSub, Nat.reduceMul, Nat.reduceLT, Nat.reduceLeDiff, Int.reduceEq, Int.reduceNe, Int.reduceLT, Int.reduceLE, reduceCtorEq, ↓reduceIte, ne_eq, eq_self, and_self, str_eq_iff, Int.toNat_natCast, aceR, aceS]
  refine RetOk.of [] [] ?_ ?_ rfl ?_ rfl rfl ?_
  all_goals simp [ML, args1, arg1, args0, lents1, lent1, lent0, lents0, lentB, rowsM, body0, only, sg, injB, apartB, keysOf, cur, resS, ↓get_cons', ↓hget_cons', Value.oneCell', eq_self, and_self, ne_eq, vI, rK_nil, Int.toNat_natCast, aceR, aceS]
end Go.Proofs.Ac
