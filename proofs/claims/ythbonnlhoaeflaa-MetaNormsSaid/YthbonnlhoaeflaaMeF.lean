import Derived.Test.YthbonnlhoaeflaaMeE
set_option linter.unusedVariables false
set_option linter.unusedSimpArgs false
-- DEFS Int.toNat_natCast, attrS, attrR, aceS, aceR, metaS, metaC
namespace Go.Proofs.Me
open Go.RowKit Go.Lib Go.Eng Go.Proofs Go.IntWalk
set_option maxRecDepth 100000
set_option maxHeartbeats 2000000
structure M where
  mode : Int
  uid : Int
  gid : Int
  time : Int
  attrs : List At
  acl : List Ac
def metaC (m : M) : List S := [.d (.v (.int .i64 m.mode)), .d (.v (.int .i64 m.uid)), .d (.v (.int .i64 m.gid)), .d (.v (.int .i64 m.time)), .d (.sl 2 (rM attrR m.attrs)), .d (.sl 3 (rM aceR m.acl))]
def metaS (m : M) : S := .agg (metaC m)
abbrev okAt (l : List At) (k : Nat) : Prop := okN attrOk (fun a b => sLt a.1 b.1 = true) l k
def mayM (m : M) : Prop := (0 ≤ m.mode ∧ m.mode ≤ 4095 ∧ 0 ≤ m.uid ∧ m.uid ≤ 2147483647 ∧ 0 ≤ m.gid ∧ m.gid ≤ 2147483647 ∧ 0 ≤ m.time) ∧ okAt m.attrs m.attrs.length ∧ m.attrs.length ≤ 8 ∧ mayA m.acl
instance (m : M) : Decidable (mayM m) := by unfold mayM; infer_instance
def smallM (m : M) : Prop := m.attrs.length ≤ 2 ^ 42 ∧ m.acl.length ≤ 5864062014634
theorem may_spec (m : M) (hs : smallM m) : Eng.Spec Try.prog 23 [] [] [metaS m] [] (.d (.v (.bool (decide (mayM m))))) := by
  obtain ⟨hl, hl2⟩ := hs
  refine told_spec mixed f23_told f23_results f23_text rfl (by simp) rfl ?_
  simp only [initS, List.length_cons, List.length_nil, List.range, List.range.loop, List.getD_cons_zero, List.getD_cons_succ, List.cons_append, List.nil_append, Int.toNat_natCast, attrS, attrR, aceS, aceR, metaS, metaC]
  simp -implicitDefEqProofs only [RL0, RL1, RL2, RL3, RL4, RL5, RL6, RL7, RL8, chkW, ↓get_cons', ↓hget_cons', ↓hset_cons', St.gh, isNil, evalA, opTs, LOp.args, Nat.reduceBEq, renS, ren1, ren0, renB, only, sg, gmOf, wrN, buildCells, bsRows, Value.oneCell', setAt, eqCells, eqCell, vI, vB, vS, apartW, Nat.reduceEqDiff, Nat.reduceAdd, Nat.reduceSub, Nat.reduceMul, Nat.reduceLT, Nat.reduceLeDiff, Int.reduceEq, Int.reduceNe, Int.reduceLT, Int.reduceLE, reduceCtorEq, ↓reduceIte, ne_eq, eq_self, and_self, str_eq_iff]
  have hret : ∀ q : Bool, decide (mayM m) = q → RetOk [2] { s := [(2, S.d (D.v (Value.bool q)))], h := [] } [] [] (S.d (D.v (Value.bool (decide (mayM m))))) := by
    rintro q rfl
    refine RetOk.of [] [] ?_ ?_ rfl ?_ rfl rfl ?_
    all_goals simp [ML, args1, arg1, args0, lents1, lent1, lent0, lents0, lentB, rowsM, body0, only, sg, injB, apartB, keysOf, cur, resS, ↓get_cons', ↓hget_cons', Value.oneCell', eq_self, and_self, ne_eq, vI, rK_nil, Int.toNat_natCast, attrS, attrR, aceS, aceR, metaS, metaC]
  refine vc_scope' (fun k : Nat => ⟨[(3, .d (.v (.int .i64 k))), (1, .ptr 1 0 0 0)], [(1, ⟨0, .box (metaC m)⟩)]⟩)
    (fun k => k ≤ m.attrs.length ∧ okAt m.attrs k ∧ (0 ≤ m.mode ∧ m.mode ≤ 4095 ∧ 0 ≤ m.uid ∧ m.uid ≤ 2147483647 ∧ 0 ≤ m.gid ∧ m.gid ≤ 2147483647 ∧ 0 ≤ m.time)) (fun k => m.attrs.length - k) ?_ ?_
  · rintro k ⟨g1, g2, g0⟩
    have e3 : IntKind.i64.wrap ((k : Int) + 1) = ((k + 1 : Nat) : Int) := by rw [i64_in _ (by omega)]; omega
    simp -implicitDefEqProofs only [RL0, RL1, RL2, RL3, RL4, RL5, RL6, RL7, RL8, chkW, ↓get_cons', ↓hget_cons', ↓hset_cons', St.gh, isNil, evalA, opTs, LOp.args, Nat.reduceBEq, renS, ren1, ren0, renB, only, sg, gmOf, wrN, buildCells, bsRows, Value.oneCell', setAt, eqCells, eqCell, vI, vB, vS, apartW, Nat.reduceEqDiff, Nat.reduceAdd, Nat.reduceSub, Nat.reduceMul, Nat.reduceLT, Nat.reduceLeDiff, Int.reduceEq, Int.reduceNe, Int.reduceLT, Int.reduceLE, reduceCtorEq, ↓reduceIte, ne_eq, eq_self, and_self, str_eq_iff, Int.toNat_natCast, attrS, attrR, aceS, aceR, metaS, metaC, metaC]
    refine ⟨fun h => ⟨by omega, by omega, ?_⟩, fun h => ?_⟩
    · refine callL_of (good_spec (m.attrs.getD k default)) [] false [] [] ?_ ?_
      · refine CallOk.of ?_ ?_ rfl ?_ rfl rfl rfl rfl ?_ rfl ?_ rfl
        all_goals simp [ML, args1, arg1, args0, lents1, lent1, lent0, lents0, lentB, rowsM, body0, only, sg, injB, apartB, keysOf, cur, resS, ↓get_cons', ↓hget_cons', Value.oneCell', eq_self, and_self, ne_eq, vI, rK_nil, rK_len, rK_take, rM_len, rM_take, Int.toNat_natCast, attrS, attrR, aceS, aceR, metaS, metaC, e3]
      simp -implicitDefEqProofs only [RL0, RL1, RL2, RL3, RL4, RL5, RL6, RL7, RL8, chkW, ↓get_cons', ↓hget_cons', ↓hset_cons', St.gh, isNil, evalA, opTs, LOp.args, Nat.reduceBEq, renS, ren1, ren0, renB, only, sg, gmOf, wrN, buildCells, bsRows, Value.oneCell', setAt, eqCells, eqCell, vI, vB, vS, apartW, Nat.reduceEqDiff, Nat.reduceAdd, Nat.reduceSub, Nat.reduceMul, Nat.reduceLT, Nat.reduceLeDiff, Int.reduceEq, Int.reduceNe, Int.reduceLT, Int.reduceLE, reduceCtorEq, ↓reduceIte, ne_eq, eq_self, and_self, str_eq_iff, Int.toNat_natCast, attrS, attrR, aceS, aceR, metaS, metaC, e3]
      have hbad : ¬ attrOk (m.attrs.getD k default) → decide (mayM m) = false := fun h1 => decide_eq_false fun q => h1 (q.2.1 k (by omega)).1
      refine ⟨fun h1 => ?_, fun h1 => hret _ (hbad h1)⟩
      have h1' : attrOk (m.attrs.getD k default) := Decidable.not_not.1 h1
      refine ⟨fun h2 => ?_, fun h2 => ⟨k + 1, ⟨by omega, okN_succ g2 h1' (fun q => absurd q (by omega)), g0⟩, by omega, LE.refl _ _⟩⟩
      have e2 : IntKind.i64.wrap ((k : Int) - 1) = ((k - 1 : Nat) : Int) := by rw [i64_in _ (by omega)]; omega
      rw [e2]
      refine ⟨by omega, by omega, by omega, by omega, ?_⟩
      refine callL_of (order_spec (m.attrs.getD (k - 1) default) (m.attrs.getD k default)) [] false [] [] ?_ ?_
      · refine CallOk.of ?_ ?_ rfl ?_ rfl rfl rfl rfl ?_ rfl ?_ rfl
        all_goals simp [ML, args1, arg1, args0, lents1, lent1, lent0, lents0, lentB, rowsM, body0, only, sg, injB, apartB, keysOf, cur, resS, ↓get_cons', ↓hget_cons', Value.oneCell', eq_self, and_self, ne_eq, vI, rK_nil, rK_len, rK_take, rM_len, rM_take, Int.toNat_natCast, attrS, attrR, aceS, aceR, metaS, metaC, e3]
      simp -implicitDefEqProofs only [RL0, RL1, RL2, RL3, RL4, RL5, RL6, RL7, RL8, chkW, ↓get_cons', ↓hget_cons', ↓hset_cons', St.gh, isNil, evalA, opTs, LOp.args, Nat.reduceBEq, renS, ren1, ren0, renB, only, sg, gmOf, wrN, buildCells, bsRows, Value.oneCell', setAt, eqCells, eqCell, vI, vB, vS, apartW, Nat.reduceEqDiff, Nat.reduceAdd, Nat.reduceSub, Nat.reduceMul, Nat.reduceLT, Nat.reduceLeDiff, Int.reduceEq, Int.reduceNe, Int.reduceLT, Int.reduceLE, reduceCtorEq, ↓reduceIte, ne_eq, eq_self, and_self, str_eq_iff, Int.toNat_natCast, attrS, attrR, aceS, aceR, metaS, metaC, e3]
      refine ⟨fun h3 => hret _ (decide_eq_false fun q => ?_), fun h3 => ⟨k + 1, ⟨by omega, okN_succ g2 h1' (fun _ => (cmpS_neg _ _).1 (by omega)), g0⟩, by omega, LE.refl _ _⟩⟩
      have := (cmpS_neg _ _).2 ((q.2.1 k (by omega)).2 (by omega))
      omega
    · have hk : k = m.attrs.length := by omega
      subst hk
      refine ⟨fun h1 => ?_, fun h1 => hret _ (decide_eq_false fun q => h1 (by have := q.2.2.1; omega))⟩
      refine callL_of (mayacl_spec m.acl hl2) [] false [] [] ?_ ?_
      · refine CallOk.of ?_ ?_ rfl ?_ rfl rfl rfl rfl ?_ rfl ?_ rfl
        all_goals simp [ML, args1, arg1, args0, lents1, lent1, lent0, lents0, lentB, rowsM, body0, only, sg, injB, apartB, keysOf, cur, resS, ↓get_cons', ↓hget_cons', Value.oneCell', eq_self, and_self, ne_eq, vI, rK_nil, rK_len, rK_take, rM_len, rM_take, Int.toNat_natCast, attrS, attrR, aceS, aceR, metaS, metaC]
      simp -implicitDefEqProofs only [RL0, RL1, RL2, RL3, RL4, RL5, RL6, RL7, RL8, chkW, ↓get_cons', ↓hget_cons', ↓hset_cons', St.gh, isNil, evalA, opTs, LOp.args, Nat.reduceBEq, renS, ren1, ren0, renB, only, sg, gmOf, wrN, buildCells, bsRows, Value.oneCell', setAt, eqCells, eqCell, vI, vB, vS, apartW, Nat.reduceEqDiff, Nat.reduceAdd, Nat.reduceSub, Nat.reduceMul, Nat.reduceLT, Nat.reduceLeDiff, Int.reduceEq, Int.reduceNe, Int.reduceLT, Int.reduceLE, reduceCtorEq, ↓reduceIte, ne_eq, eq_self, and_self, str_eq_iff, Int.toNat_natCast, attrS, attrR, aceS, aceR, metaS, metaC]
      refine hret _ ?_
      rw [decide_eq_decide]
      exact ⟨fun q => q.2.2.2, fun q => ⟨g0, g2, by omega, q⟩⟩
  · intro hp
    simp -implicitDefEqProofs only [RL0, RL1, RL2, RL3, RL4, RL5, RL6, RL7, RL8, chkW, ↓get_cons', ↓hget_cons', ↓hset_cons', St.gh, isNil, evalA, opTs, LOp.args, Nat.reduceBEq, renS, ren1, ren0, renB, only, sg, gmOf, wrN, buildCells, bsRows, Value.oneCell', setAt, eqCells, eqCell, vI, vB, vS, apartW, Nat.reduceEqDiff, Nat.reduceAdd, Nat.reduceSub, Nat.reduceMul, Nat.reduceLT, Nat.reduceLeDiff, Int.reduceEq, Int.reduceNe, Int.reduceLT, Int.reduceLE, reduceCtorEq, ↓reduceIte, ne_eq, eq_self, and_self, str_eq_iff, Int.toNat_natCast, attrS, attrR, aceS, aceR, metaS, metaC]
    have hbad : ¬ (0 ≤ m.mode ∧ m.mode ≤ 4095 ∧ 0 ≤ m.uid ∧ m.uid ≤ 2147483647 ∧ 0 ≤ m.gid ∧ m.gid ≤ 2147483647 ∧ 0 ≤ m.time) → RetOk [2] { s := [(2, S.d (D.v (Value.bool false)))], h := [] } [] [] (S.d (D.v (Value.bool (decide (mayM m))))) := fun h => hret false (decide_eq_false fun q => h q.1)
    repeat' (first | (refine hbad ?_; omega) | apply And.intro | intro _)
    all_goals exact vc_label_in 0 (LE.of [(1, 1)] [] (by simp [ML, args1, arg1, args0, lents1, lent1, lent0, lents0, lentB, rowsM, body0, only, sg, injB, apartB, keysOf, cur, resS, ↓get_cons', ↓hget_cons', Value.oneCell', eq_self, and_self, ne_eq, metaC]) (by simp [ML, args1, arg1, args0, lents1, lent1, lent0, lents0, lentB, rowsM, body0, only, sg, injB, apartB, keysOf, cur, resS, ↓get_cons', ↓hget_cons', Value.oneCell', eq_self, and_self, ne_eq, metaC]) rfl (by simp [ML, args1, arg1, args0, lents1, lent1, lent0, lents0, lentB, rowsM, body0, only, sg, injB, apartB, keysOf, cur, resS, ↓get_cons', ↓hget_cons', Value.oneCell', eq_self, and_self, ne_eq]) rfl rfl) (hp 0 ⟨by omega, okN_zero _ _ _, by omega⟩)
def mayMR (m : M) : Prop := (0 ≤ m.mode ∧ m.mode ≤ 4095 ∧ 0 ≤ m.uid ∧ m.uid ≤ 2147483647 ∧ 0 ≤ m.gid ∧ m.gid ≤ 2147483647 ∧ 0 ≤ m.time) ∧ okAt m.attrs m.attrs.length ∧ m.attrs.length ≤ 8 ∧ mayR m.acl
instance (m : M) : Decidable (mayMR m) := by unfold mayMR; infer_instance
theorem mayM_both (m : M) : mayMR m ↔ mayM m := by unfold mayMR mayM; rw [may_both]
theorem refmay_spec (m : M) (hs : smallM m) : Eng.Spec Try.prog 24 [] [] [metaS m] [] (.d (.v (.bool (decide (mayM m))))) := by
  obtain ⟨hl, hl2⟩ := hs
  refine told_spec mixed f24_told f24_results f24_text rfl (by simp) rfl ?_
  simp only [initS, List.length_cons, List.length_nil, List.range, List.range.loop, List.getD_cons_zero, List.getD_cons_succ, List.cons_append, List.nil_append, Int.toNat_natCast, attrS, attrR, aceS, aceR, metaS, metaC]
  simp -implicitDefEqProofs only [RL0, RL1, RL2, RL3, RL4, RL5, RL6, RL7, RL8, chkW, ↓get_cons', ↓hget_cons', ↓hset_cons', St.gh, isNil, evalA, opTs, LOp.args, Nat.reduceBEq, renS, ren1, ren0, renB, only, sg, gmOf, wrN, buildCells, bsRows, Value.oneCell', setAt, eqCells, eqCell, vI, vB, vS, apartW, Nat.reduceEqDiff, Nat.reduceAdd, Nat.reduceSub, Nat.reduceMul, Nat.reduceLT, Nat.reduceLeDiff, Int.reduceEq, Int.reduceNe, Int.reduceLT, Int.reduceLE, reduceCtorEq, ↓reduceIte, ne_eq, eq_self, and_self, str_eq_iff]
  have hret : ∀ q : Bool, decide (mayM m) = q → RetOk [2] { s := [(2, S.d (D.v (Value.bool q)))], h := [] } [] [] (S.d (D.v (Value.bool (decide (mayM m))))) := by
    rintro q rfl
    refine RetOk.of [] [] ?_ ?_ rfl ?_ rfl rfl ?_
    all_goals simp [ML, args1, arg1, args0, lents1, lent1, lent0, lents0, lentB, rowsM, body0, only, sg, injB, apartB, keysOf, cur, resS, ↓get_cons', ↓hget_cons', Value.oneCell', eq_self, and_self, ne_eq, vI, rK_nil, Int.toNat_natCast, attrS, attrR, aceS, aceR, metaS, metaC]
  refine vc_loop (fun k : Nat => ⟨[(3, .d (.v (.int .i64 k))), (1, .ptr 1 0 0 0)], [(1, ⟨0, .box (metaC m)⟩)]⟩)
    (fun k => k ≤ m.attrs.length ∧ okAt m.attrs k) (fun k => m.attrs.length - k) 0 ⟨by omega, okN_zero _ _ _⟩ (LE.refl _ _) ?_
  rintro k ⟨g1, g2⟩
  have e3 : IntKind.i64.wrap ((k : Int) + 1) = ((k + 1 : Nat) : Int) := by rw [i64_in _ (by omega)]; omega
  simp -implicitDefEqProofs only [RL0, RL1, RL2, RL3, RL4, RL5, RL6, RL7, RL8, chkW, ↓get_cons', ↓hget_cons', ↓hset_cons', St.gh, isNil, evalA, opTs, LOp.args, Nat.reduceBEq, renS, ren1, ren0, renB, only, sg, gmOf, wrN, buildCells, bsRows, Value.oneCell', setAt, eqCells, eqCell, vI, vB, vS, apartW, Nat.reduceEqDiff, Nat.reduceAdd, Nat.reduceSub, Nat.reduceMul, Nat.reduceLT, Nat.reduceLeDiff, Int.reduceEq, Int.reduceNe, Int.reduceLT, Int.reduceLE, reduceCtorEq, ↓reduceIte, ne_eq, eq_self, and_self, str_eq_iff, Int.toNat_natCast, attrS, attrR, aceS, aceR, metaS, metaC, metaC]
  refine ⟨fun h => ⟨by omega, by omega, ?_⟩, fun h => ?_⟩
  · refine callL_of (refattr_spec (m.attrs.getD k default)) [] false [] [] ?_ ?_
    · refine CallOk.of ?_ ?_ rfl ?_ rfl rfl rfl rfl ?_ rfl ?_ rfl
      all_goals simp [ML, args1, arg1, args0, lents1, lent1, lent0, lents0, lentB, rowsM, body0, only, sg, injB, apartB, keysOf, cur, resS, ↓get_cons', ↓hget_cons', Value.oneCell', eq_self, and_self, ne_eq, vI, rK_nil, rK_len, rK_take, rM_len, rM_take, Int.toNat_natCast, attrS, attrR, aceS, aceR, metaS, metaC, e3]
    simp -implicitDefEqProofs only [RL0, RL1, RL2, RL3, RL4, RL5, RL6, RL7, RL8, chkW, ↓get_cons', ↓hget_cons', ↓hset_cons', St.gh, isNil, evalA, opTs, LOp.args, Nat.reduceBEq, renS, ren1, ren0, renB, only, sg, gmOf, wrN, buildCells, bsRows, Value.oneCell', setAt, eqCells, eqCell, vI, vB, vS, apartW, Nat.reduceEqDiff, Nat.reduceAdd, Nat.reduceSub, Nat.reduceMul, Nat.reduceLT, Nat.reduceLeDiff, Int.reduceEq, Int.reduceNe, Int.reduceLT, Int.reduceLE, reduceCtorEq, ↓reduceIte, ne_eq, eq_self, and_self, str_eq_iff, Int.toNat_natCast, attrS, attrR, aceS, aceR, metaS, metaC, e3]
    have hbad : ¬ attrOk (m.attrs.getD k default) → decide (mayM m) = false := fun h1 => decide_eq_false fun q => h1 (q.2.1 k (by omega)).1
    refine ⟨fun h1 => ?_, fun h1 => hret _ (hbad h1)⟩
    have h1' : attrOk (m.attrs.getD k default) := Decidable.not_not.1 h1
    refine ⟨fun h2 => ?_, fun h2 => ⟨k + 1, ⟨by omega, okN_succ g2 h1' (fun q => absurd q (by omega))⟩, by omega, LE.refl _ _⟩⟩
    have e2 : IntKind.i64.wrap ((k : Int) - 1) = ((k - 1 : Nat) : Int) := by rw [i64_in _ (by omega)]; omega
    simp only [e2, Int.toNat_natCast]
    refine ⟨by omega, by omega, by omega, by omega, fun h3 => hret _ (decide_eq_false fun q => ?_), fun h3 => ⟨k + 1, ⟨by omega, okN_succ g2 h1' (fun _ => ?_)⟩, by omega, LE.refl _ _⟩⟩
    · have : sLt (m.attrs.getD (k - 1) default).1 (m.attrs.getD k default).1 = true := (q.2.1 k (by omega)).2 (by omega)
      rcases h3 with h3 | h3
      · rw [sLt_asymm h3] at this; cases this
      · rw [h3, sLt_irr] at this; cases this
    · cases h4 : sLt (m.attrs.getD (k - 1) default).1 (m.attrs.getD k default).1 with
      | true => rfl
      | false =>
        exfalso
        apply h3
        cases h5 : sLt (m.attrs.getD k default).1 (m.attrs.getD (k - 1) default).1 with
        | true => exact .inl rfl
        | false => exact .inr (sLt_total h5 h4)
  · have hk : k = m.attrs.length := by omega
    subst hk
    have hbad : ¬ ((0 ≤ m.mode ∧ m.mode ≤ 4095 ∧ 0 ≤ m.uid ∧ m.uid ≤ 2147483647 ∧ 0 ≤ m.gid ∧ m.gid ≤ 2147483647 ∧ 0 ≤ m.time) ∧ m.attrs.length ≤ 8) → RetOk [2] { s := [(2, S.d (D.v (Value.bool false)))], h := [] } [] [] (S.d (D.v (Value.bool (decide (mayM m))))) := fun h => hret false (decide_eq_false fun q => h ⟨q.1, q.2.2.1⟩)
    repeat' (first | (refine hbad ?_; omega) | apply And.intro | intro _)
    all_goals
      refine callL_of (refmayacl_spec m.acl hl2) [] false [] [] ?_ ?_
      · refine CallOk.of ?_ ?_ rfl ?_ rfl rfl rfl rfl ?_ rfl ?_ rfl
        all_goals simp [ML, args1, arg1, args0, lents1, lent1, lent0, lents0, lentB, rowsM, body0, only, sg, injB, apartB, keysOf, cur, resS, ↓get_cons', ↓hget_cons', Value.oneCell', eq_self, and_self, ne_eq, vI, rK_nil, rK_len, rK_take, rM_len, rM_take, Int.toNat_natCast, attrS, attrR, aceS, aceR, metaS, metaC]
      simp -implicitDefEqProofs only [RL0, RL1, RL2, RL3, RL4, RL5, RL6, RL7, RL8, chkW, ↓get_cons', ↓hget_cons', ↓hset_cons', St.gh, isNil, evalA, opTs, LOp.args, Nat.reduceBEq, renS, ren1, ren0, renB, only, sg, gmOf, wrN, buildCells, bsRows, Value.oneCell', setAt, eqCells, eqCell, vI, vB, vS, apartW, Nat.reduceEqDiff, Nat.reduceAdd, Nat.reduceSub, Nat.reduceMul, Nat.reduceLT, Nat.reduceLeDiff, Int.reduceEq, Int.reduceNe, Int.reduceLT, Int.reduceLE, reduceCtorEq, ↓reduceIte, ne_eq, eq_self, and_self, str_eq_iff, Int.toNat_natCast, attrS, attrR, aceS, aceR, metaS, metaC]
      refine hret _ ?_
      rw [decide_eq_decide, may_both]
      exact ⟨fun q => q.2.2.2, fun q => ⟨by omega, g2, by omega, q⟩⟩
end Go.Proofs.Me
