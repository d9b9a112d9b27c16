import Derived.Test.YthbonnlhoaeflaaExY
set_option linter.unusedVariables false
set_option linter.unusedSimpArgs false
-- DEFS Int.toNat_natCast, cV, cR
namespace Go.Proofs.Ex
open Go.RowKit Go.Lib Go.Eng Go.Proofs Go.IntWalk
set_option maxRecDepth 100000
set_option linter.unusedVariables false
set_option maxHeartbeats 4000000
/-- A promise about a slice, out of one for nil and one for what is not nil. -/
theorem nilcase {P : Program} {f : Nat} {pins : List Nat} {hA hB : List (Nat × Ob)} {sz : Nat} {rows : List (List D)} {res : S} (h1 : rows = [] → Eng.Spec P f pins hA [.d (.v (.slice none 0 0))] hB res) (h2 : Eng.Spec P f pins hA [.d (.sn sz rows)] hB res) :
    Eng.Spec P f pins hA [.d (.sl sz rows)] hB res := by
  intro w ok lv vs In hl hrep
  match vs, hl with
  | [v], _ =>
    have hx := hrep 0 _ v rfl rfl
    cases hx with
    | d _ _ hx =>
      have hnn : ∀ a l c, v = .slice (some a) l c → RepD w ok (.sl sz rows) v → Calls P f [v].toArray w fun e w' => ∃ v ok' lv', e = .returned v ∧ RepS w' ok' lv' res v ∧ OutRel w w' ok ok' lv lv' (hget hA) (hget hB) (· ∈ pins) := by
        rintro a l c rfl hx
        refine h2 w ok lv _ In rfl (fun j s u hs hu => ?_)
        cases j with
        | zero => cases hs; cases hu; exact .d _ _ (.sn _ _ _ _ _ hx)
        | succ j => simp at hs
      cases hx with
      | nil =>
        refine h1 rfl w ok lv _ In rfl (fun j s u hs hu => ?_)
        cases j with
        | zero => cases hs; cases hu; exact .d _ _ (.v _)
        | succ j => simp at hs
      | emp a c => exact hnn _ _ _ rfl (.emp _ _ _)
      | sl => exact hnn _ _ _ rfl (.sl _ _ _ _ _ _ ‹_› ‹_› ‹_› ‹_› ‹_›)

theorem clone_spec (l : List Z) (hl : l.length ≤ 2 ^ 40) : Eng.Spec Try.prog 30 [] [] [.d (.sl 1 (rM cR l))] [(1000, ⟨0, .arr 1 (rM cR l)⟩)] (.view 1000 0 0 l.length) := by
  refine nilcase (fun h => ?_) ?_
  · have : l = [] := List.map_eq_nil_iff.1 h
    subst this
    refine told_spec mixed f30_told f30_results f30_text rfl (by simp) rfl ?_
    simp only [initS, List.length_cons, List.length_nil, List.range, List.range.loop, List.getD_cons_zero, List.getD_cons_succ, List.cons_append, List.nil_append, Int.toNat_natCast, cV, cR]
    simp -implicitDefEqProofs only [RL0, RL1, RL2, RL3, RL4, RL5, RL6, RL7, RL8, RL9, chkW, ↓get_cons', ↓hget_cons', ↓hset_cons', St.gh, isNil, evalA, opTs, LOp.args, Nat.reduceBEq, renS, ren1, ren0, renB, only, sg, gmOf, wrN, buildCells, bsRows, Value.oneCell', setAt, eqCells, eqCell, vI, vB, vS, apartW, Nat.reduceEqDiff, Nat.reduceAdd, Nat.reduceSub, Nat.reduceMul, Nat.reduceLT, Nat.reduceLeDiff, Int.reduceEq, Int.reduceNe, Int.reduceLT, Int.reduceLE, reduceCtorEq, ↓reduceIte, ne_eq, eq_self, and_self, str_eq_iff]
    refine RetOk.of [(1000, 502)] [] ?_ ?_ rfl ?_ rfl rfl ?_
    all_goals simp [ML, args1, arg1, args0, lents1, lent1, lent0, lents0, lentB, rowsM, body0, only, sg, injB, apartB, keysOf, cur, resS, ↓get_cons', ↓hget_cons', Value.oneCell', eq_self, and_self, ne_eq, vI, rK_nil, Int.toNat_natCast, cV, cR, rM]
  · refine told_spec mixed f30_told f30_results f30_text rfl (by simp) rfl ?_
    simp only [initS, List.length_cons, List.length_nil, List.range, List.range.loop, List.getD_cons_zero, List.getD_cons_succ, List.cons_append, List.nil_append, Int.toNat_natCast, cV, cR]
    simp -implicitDefEqProofs only [RL0, RL1, RL2, RL3, RL4, RL5, RL6, RL7, RL8, RL9, chkW, ↓get_cons', ↓hget_cons', ↓hset_cons', St.gh, isNil, evalA, opTs, LOp.args, Nat.reduceBEq, renS, ren1, ren0, renB, only, sg, gmOf, wrN, buildCells, bsRows, Value.oneCell', setAt, eqCells, eqCell, vI, vB, vS, apartW, Nat.reduceEqDiff, Nat.reduceAdd, Nat.reduceSub, Nat.reduceMul, Nat.reduceLT, Nat.reduceLeDiff, Int.reduceEq, Int.reduceNe, Int.reduceLT, Int.reduceLE, reduceCtorEq, ↓reduceIte, ne_eq, eq_self, and_self, str_eq_iff]
    refine ⟨by omega, by omega, ?_⟩
    refine RetOk.of [(1000, 5)] [] ?_ ?_ rfl ?_ rfl rfl ?_
    all_goals simp [ML, args1, arg1, args0, lents1, lent1, lent0, lents0, lentB, rowsM, body0, only, sg, injB, apartB, keysOf, cur, resS, ↓get_cons', ↓hget_cons', Value.oneCell', eq_self, and_self, ne_eq, vI, rK_nil, Int.toNat_natCast, cV, cR]
theorem sort_spec (l : List Z) (hok : ∀ z ∈ l, okZ z) (hl : l.length ≤ 2 ^ 30) : Eng.Spec Try.prog 31 [1000] [(1000, ⟨0, .arr 1 (rM cR l)⟩)] [.view 1000 0 0 l.length, .d (.v (.func (.func 32) #[] #[]))]
    [(1000, ⟨0, .arr 1 (rM cR (sortR ltZ l))⟩)] (.tup []) := by
  refine told_spec mixed f31_told f31_results f31_text rfl (by simp) rfl ?_
  simp only [initS, List.length_cons, List.length_nil, List.range, List.range.loop, List.getD_cons_zero, List.getD_cons_succ, List.cons_append, List.nil_append, Int.toNat_natCast, cV, cR]
  simp -implicitDefEqProofs only [RL0, RL1, RL2, RL3, RL4, RL5, RL6, RL7, RL8, RL9, chkW, ↓get_cons', ↓hget_cons', ↓hset_cons', St.gh, isNil, evalA, opTs, LOp.args, Nat.reduceBEq, renS, ren1, ren0, renB, only, sg, gmOf, wrN, buildCells, bsRows, Value.oneCell', setAt, eqCells, eqCell, vI, vB, vS, apartW, Nat.reduceEqDiff, Nat.reduceAdd, Nat.reduceSub, Nat.reduceMul, Nat.reduceLT, Nat.reduceLeDiff, Int.reduceEq, Int.reduceNe, Int.reduceLT, Int.reduceLE, reduceCtorEq, ↓reduceIte, ne_eq, eq_self, and_self, str_eq_iff]
  refine callL_of (stable_big l hok hl) [(1000, 1000)] false [] [] ?_ ?_
  · refine CallOk.of ?_ ?_ rfl ?_ rfl rfl rfl rfl ?_ rfl ?_ rfl
    all_goals simp [ML, args1, arg1, args0, lents1, lent1, lent0, lents0, lentB, rowsM, body0, only, sg, injB, apartB, keysOf, cur, resS, ↓get_cons', ↓hget_cons', Value.oneCell', eq_self, and_self, ne_eq, vI, rK_nil, rK_len, rK_take, rM_len, rM_take, Int.toNat_natCast, cV, cR]
  simp -implicitDefEqProofs only [RL0, RL1, RL2, RL3, RL4, RL5, RL6, RL7, RL8, RL9, chkW, ↓get_cons', ↓hget_cons', ↓hset_cons', St.gh, isNil, evalA, opTs, LOp.args, Nat.reduceBEq, renS, ren1, ren0, renB, only, sg, gmOf, wrN, buildCells, bsRows, Value.oneCell', setAt, eqCells, eqCell, vI, vB, vS, apartW, Nat.reduceEqDiff, Nat.reduceAdd, Nat.reduceSub, Nat.reduceMul, Nat.reduceLT, Nat.reduceLeDiff, Int.reduceEq, Int.reduceNe, Int.reduceLT, Int.reduceLE, reduceCtorEq, ↓reduceIte, ne_eq, eq_self, and_self, str_eq_iff, Int.toNat_natCast, cV, cR]
  refine RetOk.of [(1000, 1000)] [] ?_ ?_ rfl ?_ rfl rfl ?_
  all_goals simp [ML, args1, arg1, args0, lents1, lent1, lent0, lents0, lentB, rowsM, body0, only, sg, injB, apartB, keysOf, cur, resS, ↓get_cons', ↓hget_cons', Value.oneCell', eq_self, and_self, ne_eq, vI, rK_nil, Int.toNat_natCast, cV, cR]
end Go.Proofs.Ex
