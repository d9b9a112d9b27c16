import Derived.Test.YthbonnlhoaeflaaExE
set_option linter.unusedVariables false
set_option linter.unusedSimpArgs false
-- DEFS Int.toNat_natCast, cV, cR
namespace Go.Proofs.Ex
open Go.RowKit Go.Lib Go.Eng Go.Proofs Go.IntWalk
set_option maxRecDepth 100000
set_option linter.unusedVariables false
set_option maxHeartbeats 4000000
theorem eq_getD {α : Type} [Inhabited α] {a b : List α} (h1 : a.length = b.length) (h2 : ∀ j, j < a.length → a.getD j default = b.getD j default) : a = b := by
  refine List.ext_getElem h1 fun j ha hb => ?_
  have := h2 j ha
  rwa [List.getD_eq_getElem?_getD, List.getD_eq_getElem?_getD, List.getElem?_eq_getElem ha, List.getElem?_eq_getElem hb] at this
theorem same_spec (a b : List Z) (ha : ∀ z ∈ a, okZ z) (hb : ∀ z ∈ b, okZ z) (hl : a.length ≤ 2 ^ 40) : Eng.Spec Try.prog 14 [] [] [.d (.sl 1 (rM cR a)), .d (.sl 1 (rM cR b))] [] (.d (.v (.bool (decide (a = b))))) := by
  refine told_spec mixed f14_told f14_results f14_text rfl (by simp) rfl ?_
  simp only [initS, List.length_cons, List.length_nil, List.range, List.range.loop, List.getD_cons_zero, List.getD_cons_succ, List.cons_append, List.nil_append, Int.toNat_natCast, cV, cR]
  simp -implicitDefEqProofs only [RL0, RL1, RL2, RL3, RL4, RL5, RL6, RL7, RL8, RL9, chkW, ↓get_cons', ↓hget_cons', ↓hset_cons', St.gh, isNil, evalA, opTs, LOp.args, Nat.reduceBEq, renS, ren1, ren0, renB, only, sg, gmOf, wrN, buildCells, bsRows, Value.oneCell', setAt, eqCells, eqCell, vI, vB, vS, apartW, Nat.reduceEqDiff, Nat.reduceAdd, Nat.reduceSub, Nat.reduceMul, Nat.reduceLT, Nat.reduceLeDiff, Int.reduceEq, Int.reduceNe, Int.reduceLT, Int.reduceLE, reduceCtorEq, ↓reduceIte, ne_eq, eq_self, and_self, str_eq_iff]
  have hret : ∀ q : Bool, decide (a = b) = q → RetOk [4] { s := [(4, S.d (D.v (Value.bool q)))], h := [] } [] [] (S.d (D.v (Value.bool (decide (a = b))))) := by
    rintro q rfl
    refine RetOk.of [] [] ?_ ?_ rfl ?_ rfl rfl ?_
    all_goals simp [ML, args1, arg1, args0, lents1, lent1, lent0, lents0, lentB, rowsM, body0, only, sg, injB, apartB, keysOf, cur, resS, ↓get_cons', ↓hget_cons', Value.oneCell', eq_self, and_self, ne_eq, vI, rK_nil, Int.toNat_natCast, cV, cR]
  refine ⟨fun h => hret _ (decide_eq_false fun q => h (by rw [q])), fun h => ?_⟩
  have hlen : a.length = b.length := by omega
  refine vc_loop (fun k : Nat => ⟨[(5, .d (.v (.int .i64 k))), (1, .d (.sl 1 (rM cR b))), (0, .d (.sl 1 (rM cR a)))], []⟩)
    (fun k => k ≤ a.length ∧ ∀ j, j < k → a.getD j default = b.getD j default) (fun k => a.length - k) 0 ⟨by omega, by omega⟩ (LE.refl _ _) ?_
  rintro k ⟨g1, g2⟩
  have e3 : IntKind.i64.wrap ((k : Int) + 1) = ((k + 1 : Nat) : Int) := by rw [i64_in _ (by omega)]; omega
  by_cases hk : k < a.length
  · have e1 : ((k : Int) < (a.length : Int)) = True := eq_true (by omega)
    have ho1 := ha _ (getD_mem (i := k) hk)
    have ho2 := hb _ (getD_mem (i := k) (show k < b.length by omega))
    have hne : ¬ (a.getD k default = b.getD k default) → decide (a = b) = false := fun h1 => decide_eq_false fun q => h1 (by rw [q])
    have hnx : a.getD k default = b.getD k default → ∃ y : Nat, (y ≤ a.length ∧ ∀ j, j < y → a.getD j default = b.getD j default) ∧ a.length - y < a.length - k ∧ Eng.LE [] ⟨[(5, .d (.v (.int .i64 (k + 1 : Nat)))), (1, .d (.sl 1 (rM cR b))), (0, .d (.sl 1 (rM cR a)))], []⟩ ⟨[(5, .d (.v (.int .i64 y))), (1, .d (.sl 1 (rM cR b))), (0, .d (.sl 1 (rM cR a)))], []⟩ := fun h1 => by
      refine ⟨k + 1, ⟨by omega, fun j hj => ?_⟩, by omega, LE.refl _ _⟩
      by_cases e : j = k
      · subst e; exact h1
      · exact g2 j (by omega)
    generalize hX : a.getD k default = x at *
    generalize hY : b.getD k default = y at *
    have o1 := fl_order x.1 y.1 (by have := ho1.1; omega) (by have := ho2.1; omega)
    have o2 := fl_order x.2 y.2 (by have := ho1.2; omega) (by have := ho2.2; omega)
    simp -implicitDefEqProofs only [RL0, RL1, RL2, RL3, RL4, RL5, RL6, RL7, RL8, RL9, chkW, ↓get_cons', ↓hget_cons', ↓hset_cons', St.gh, isNil, evalA, opTs, LOp.args, Nat.reduceBEq, renS, ren1, ren0, renB, only, sg, gmOf, wrN, buildCells, bsRows, Value.oneCell', setAt, eqCells, eqCell, vI, vB, vS, apartW, Nat.reduceEqDiff, Nat.reduceAdd, Nat.reduceSub, Nat.reduceMul, Nat.reduceLT, Nat.reduceLeDiff, Int.reduceEq, Int.reduceNe, Int.reduceLT, Int.reduceLE, reduceCtorEq, ↓reduceIte, ne_eq, eq_self, and_self, str_eq_iff, Int.toNat_natCast, cV, cR, e1, e3, hX, hY, o1, o2]
    have hne1 : ¬ x.1 = y.1 → decide (a = b) = false := fun h1 => hne (fun q => h1 (by rw [q]))
    have hne2 : ¬ x.2 = y.2 → decide (a = b) = false := fun h1 => hne (fun q => h1 (by rw [q]))
    exact ⟨by omega, by omega, by omega, fun c1 => ⟨by omega, by omega, by omega, fun c2 => hret _ (hne2 c2), fun c2 => hnx (Prod.ext (Decidable.not_not.1 c1) (Decidable.not_not.1 c2))⟩, fun c1 => hret _ (hne1 c1)⟩
  · have hk' : k = a.length := by omega
    have e1 : ((k : Int) < (a.length : Int)) = False := eq_false (by omega)
    simp -implicitDefEqProofs only [RL0, RL1, RL2, RL3, RL4, RL5, RL6, RL7, RL8, RL9, chkW, ↓get_cons', ↓hget_cons', ↓hset_cons', St.gh, isNil, evalA, opTs, LOp.args, Nat.reduceBEq, renS, ren1, ren0, renB, only, sg, gmOf, wrN, buildCells, bsRows, Value.oneCell', setAt, eqCells, eqCell, vI, vB, vS, apartW, Nat.reduceEqDiff, Nat.reduceAdd, Nat.reduceSub, Nat.reduceMul, Nat.reduceLT, Nat.reduceLeDiff, Int.reduceEq, Int.reduceNe, Int.reduceLT, Int.reduceLE, reduceCtorEq, ↓reduceIte, ne_eq, eq_self, and_self, str_eq_iff, Int.toNat_natCast, cV, cR, e1]
    exact hret _ (decide_eq_true (eq_getD hlen fun j hj => g2 j (by omega)))
end Go.Proofs.Ex
