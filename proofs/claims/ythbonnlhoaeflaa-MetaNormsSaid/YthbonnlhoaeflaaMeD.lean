import Derived.Test.YthbonnlhoaeflaaMeC
import Derived.Test.YthbonnlhoaeflaaEngW
set_option linter.unusedVariables false
set_option linter.unusedSimpArgs false
-- DEFS Int.toNat_natCast, attrS, attrR, aceS, aceR
namespace Go.Proofs.Me
open Go.RowKit Go.Lib Go.Eng Go.Proofs Go.IntWalk
set_option maxRecDepth 100000
set_option maxHeartbeats 2000000
def twN (l : List At) : Nat → Bool
  | 0 => false
  | k + 1 => twN l k || (decide (0 < k) && decide ((l.getD (k - 1) default).1 = (l.getD k default).1))
def norm (l : List At) : List At × Int := if ¬ ∀ a ∈ l, attrOk a then ([], 1) else if twN (sortR ltA l) l.length = true then ([], 6) else if 8 < l.length then ([], 13) else (sortR ltA l, 0)
theorem cmpS_zero (a b : ByteArray) : cmpS a b = 0 ↔ a = b := by
  unfold cmpS
  constructor
  · intro h
    split at h
    · cases h
    · rename_i h1
      split at h
      · cases h
      · rename_i h2
        by_cases e : a = b
        · exact e
        · exact absurd (fun q => q.elim h1 e) h2
  · rintro rfl
    rw [if_neg (by rw [sLt_irr]; decide), if_neg (by simp)]
theorem norm_spec (l : List At) (hl : l.length < 20) : Eng.Spec Try.prog 21 [] [] [.d (.sl 2 (rM attrR l))] [(1000, ⟨0, .arr 2 (rM attrR (norm l).1)⟩)] (.tup [.view 1000 0 0 (norm l).1.length, .d (.v (.int .i64 (norm l).2))]) := by
  refine told_spec mixed f21_told f21_results f21_text rfl (by simp) rfl ?_
  simp only [initS, List.length_cons, List.length_nil, List.range, List.range.loop, List.getD_cons_zero, List.getD_cons_succ, List.cons_append, List.nil_append, Int.toNat_natCast, attrS, attrR, aceS, aceR]
  simp -implicitDefEqProofs only [RL0, RL1, RL2, RL3, RL4, RL5, RL6, RL7, RL8, chkW, ↓get_cons', ↓hget_cons', ↓hset_cons', St.gh, isNil, evalA, opTs, LOp.args, Nat.reduceBEq, renS, ren1, ren0, renB, only, sg, gmOf, wrN, buildCells, bsRows, Value.oneCell', setAt, eqCells, eqCell, vI, vB, vS, apartW, Nat.reduceEqDiff, Nat.reduceAdd, Nat.reduceSub, Nat.reduceMul, Nat.reduceLT, Nat.reduceLeDiff, Int.reduceEq, Int.reduceNe, Int.reduceLT, Int.reduceLE, reduceCtorEq, ↓reduceIte, ne_eq, eq_self, and_self, str_eq_iff]
  refine callL_of (clone_spec l (by omega)) [(1000, 8)] false [] [] ?_ ?_
  · refine CallOk.of ?_ ?_ rfl ?_ rfl rfl rfl rfl ?_ rfl ?_ rfl
    all_goals simp [ML, args1, arg1, args0, lents1, lent1, lent0, lents0, lentB, rowsM, body0, only, sg, injB, apartB, keysOf, cur, resS, ↓get_cons', ↓hget_cons', Value.oneCell', eq_self, and_self, ne_eq, vI, rK_nil, rK_len, rK_take, rM_len, rM_take, Int.toNat_natCast, attrS, attrR, aceS, aceR]
  simp -implicitDefEqProofs only [RL0, RL1, RL2, RL3, RL4, RL5, RL6, RL7, RL8, chkW, ↓get_cons', ↓hget_cons', ↓hset_cons', St.gh, isNil, evalA, opTs, LOp.args, Nat.reduceBEq, renS, ren1, ren0, renB, only, sg, gmOf, wrN, buildCells, bsRows, Value.oneCell', setAt, eqCells, eqCell, vI, vB, vS, apartW, Nat.reduceEqDiff, Nat.reduceAdd, Nat.reduceSub, Nat.reduceMul, Nat.reduceLT, Nat.reduceLeDiff, Int.reduceEq, Int.reduceNe, Int.reduceLT, Int.reduceLE, reduceCtorEq, ↓reduceIte, ne_eq, eq_self, and_self, str_eq_iff, Int.toNat_natCast, attrS, attrR, aceS, aceR]
  refine callL_of (sort_spec l hl) [(1000, 8)] false [] [] ?_ ?_
  · refine CallOk.of ?_ ?_ rfl ?_ rfl rfl rfl rfl ?_ rfl ?_ rfl
    all_goals simp [ML, args1, arg1, args0, lents1, lent1, lent0, lents0, lentB, rowsM, body0, only, sg, injB, apartB, keysOf, cur, resS, ↓get_cons', ↓hget_cons', Value.oneCell', eq_self, and_self, ne_eq, vI, rK_nil, rK_len, rK_take, rM_len, rM_take, Int.toNat_natCast, attrS, attrR, aceS, aceR]
  simp -implicitDefEqProofs only [RL0, RL1, RL2, RL3, RL4, RL5, RL6, RL7, RL8, chkW, ↓get_cons', ↓hget_cons', ↓hset_cons', St.gh, isNil, evalA, opTs, LOp.args, Nat.reduceBEq, renS, ren1, ren0, renB, only, sg, gmOf, wrN, buildCells, bsRows, Value.oneCell', setAt, eqCells, eqCell, vI, vB, vS, apartW, Nat.reduceEqDiff, Nat.reduceAdd, Nat.reduceSub, Nat.reduceMul, Nat.reduceLT, Nat.reduceLeDiff, Int.reduceEq, Int.reduceNe, Int.reduceLT, Int.reduceLE, reduceCtorEq, ↓reduceIte, ne_eq, eq_self, and_self, str_eq_iff, Int.toNat_natCast, attrS, attrR, aceS, aceR]
  have hs : (sortR ltA l).length = l.length := sortR_len l
  have hm : ∀ a, a ∈ sortR ltA l ↔ a ∈ l := fun a => (sortR_perm l).mem_iff
  generalize hS : sortR ltA l = s at *
  refine vc_loop (fun k : Nat => ⟨[(13, .d (.v (.int .i64 k))), (0, .view 8 0 0 l.length), (4, .d (.v (.bool (twN s k)))), (11, .view 8 0 0 l.length), (12, .d (.v (.int .i64 l.length)))], [(8, ⟨0, .arr 2 (rM attrR s)⟩)]⟩)
    (fun k => k ≤ l.length ∧ ∀ j, j < k → attrOk (s.getD j default)) (fun k => l.length - k) 0 ⟨by omega, by omega⟩ (LE.refl _ _) ?_
  rintro k ⟨h1, h2⟩
  simp -implicitDefEqProofs only [RL0, RL1, RL2, RL3, RL4, RL5, RL6, RL7, RL8, chkW, ↓get_cons', ↓hget_cons', ↓hset_cons', St.gh, isNil, evalA, opTs, LOp.args, Nat.reduceBEq, renS, ren1, ren0, renB, only, sg, gmOf, wrN, buildCells, bsRows, Value.oneCell', setAt, eqCells, eqCell, vI, vB, vS, apartW, Nat.reduceEqDiff, Nat.reduceAdd, Nat.reduceSub, Nat.reduceMul, Nat.reduceLT, Nat.reduceLeDiff, Int.reduceEq, Int.reduceNe, Int.reduceLT, Int.reduceLE, reduceCtorEq, ↓reduceIte, ne_eq, eq_self, and_self, str_eq_iff, Int.toNat_natCast, attrS, attrR, aceS, aceR]
  refine ⟨fun hk => ⟨by omega, by omega, by omega, ?_⟩, fun hk => ?_⟩
  · refine callL_of (good_spec (s.getD k default)) [] false [] [] ?_ ?_
    · refine CallOk.of ?_ ?_ rfl ?_ rfl rfl rfl rfl ?_ rfl ?_ rfl
      all_goals simp [ML, args1, arg1, args0, lents1, lent1, lent0, lents0, lentB, rowsM, body0, only, sg, injB, apartB, keysOf, cur, resS, ↓get_cons', ↓hget_cons', Value.oneCell', eq_self, and_self, ne_eq, vI, rK_nil, rK_len, rK_take, rM_len, rM_take, Int.toNat_natCast, attrS, attrR, aceS, aceR]
    simp -implicitDefEqProofs only [RL0, RL1, RL2, RL3, RL4, RL5, RL6, RL7, RL8, chkW, ↓get_cons', ↓hget_cons', ↓hset_cons', St.gh, isNil, evalA, opTs, LOp.args, Nat.reduceBEq, renS, ren1, ren0, renB, only, sg, gmOf, wrN, buildCells, bsRows, Value.oneCell', setAt, eqCells, eqCell, vI, vB, vS, apartW, Nat.reduceEqDiff, Nat.reduceAdd, Nat.reduceSub, Nat.reduceMul, Nat.reduceLT, Nat.reduceLeDiff, Int.reduceEq, Int.reduceNe, Int.reduceLT, Int.reduceLE, reduceCtorEq, ↓reduceIte, ne_eq, eq_self, and_self, str_eq_iff, Int.toNat_natCast, attrS, attrR, aceS, aceR]
    refine ⟨fun hg => ?_, fun hg => ?_⟩
    · have hn : norm l = ([], 1) := by
        unfold norm
        rw [if_pos]
        intro q
        refine hg (q _ ((hm _).1 ?_))
        rw [List.getD_eq_getElem?_getD, List.getElem?_eq_getElem (by omega)]
        exact List.getElem_mem ..
      rw [hn]
      refine RetOk.of [(1000, 502)] [] ?_ ?_ rfl ?_ rfl rfl ?_
      all_goals simp [ML, args1, arg1, args0, lents1, lent1, lent0, lents0, lentB, rowsM, body0, only, sg, injB, apartB, keysOf, cur, resS, ↓get_cons', ↓hget_cons', Value.oneCell', eq_self, and_self, ne_eq, vI, rK_nil, Int.toNat_natCast, attrS, attrR, aceS, aceR, rM]
    · have hg' : attrOk (s.getD k default) := Decidable.not_not.1 hg
      have e1 : IntKind.i64.wrap ((k : Int) + 1) = ((k + 1 : Nat) : Int) := by rw [i64_in _ (by omega)]; omega
      have hstep : ∀ b, twN s (k + 1) = b → (∃ y : Nat, (y ≤ l.length ∧ ∀ j, j < y → attrOk (s.getD j default)) ∧ l.length - y < l.length - k ∧ Eng.LE [] ⟨[(13, .d (.v (.int .i64 (k + 1 : Nat)))), (0, .view 8 0 0 l.length), (4, .d (.v (.bool b))), (11, .view 8 0 0 l.length), (12, .d (.v (.int .i64 l.length)))], [(8, ⟨0, .arr 2 (rM attrR s)⟩)]⟩
          ⟨[(13, .d (.v (.int .i64 y))), (0, .view 8 0 0 l.length), (4, .d (.v (.bool (twN s y)))), (11, .view 8 0 0 l.length), (12, .d (.v (.int .i64 l.length)))], [(8, ⟨0, .arr 2 (rM attrR s)⟩)]⟩) := by
        rintro b rfl
        refine ⟨k + 1, ⟨by omega, fun j hj => ?_⟩, by omega, LE.refl _ _⟩
        by_cases e : j = k
        · rw [e]; exact hg'
        · exact h2 j (by omega)
      cases ht : twN s k
      · cases k with
        | zero =>
          simp -implicitDefEqProofs only [RL0, RL1, RL2, RL3, RL4, RL5, RL6, RL7, RL8, chkW, ↓get_cons', ↓hget_cons', ↓hset_cons', St.gh, isNil, evalA, opTs, LOp.args, Nat.reduceBEq, renS, ren1, ren0, renB, only, sg, gmOf, wrN, buildCells, bsRows, Value.oneCell', setAt, eqCells, eqCell, vI, vB, vS, apartW, Nat.reduceEqDiff, Nat.reduceAdd, Nat.reduceSub, Nat.reduceMul, Nat.reduceLT, Nat.reduceLeDiff, Int.reduceEq, Int.reduceNe, Int.reduceLT, Int.reduceLE, reduceCtorEq, ↓reduceIte, ne_eq, eq_self, and_self, str_eq_iff, Int.toNat_natCast, attrS, attrR, aceS, aceR, e1, Int.natCast_zero, Int.lt_irrefl]
          exact hstep false rfl
        | succ k =>
          have e0 : ((0 : Int) < ((k + 1 : Nat) : Int)) = True := eq_true (by omega)
          have e2 : IntKind.i64.wrap (((k + 1 : Nat) : Int) - 1) = (k : Int) := by rw [i64_in _ (by omega)]; omega
          simp -implicitDefEqProofs only [RL0, RL1, RL2, RL3, RL4, RL5, RL6, RL7, RL8, chkW, ↓get_cons', ↓hget_cons', ↓hset_cons', St.gh, isNil, evalA, opTs, LOp.args, Nat.reduceBEq, renS, ren1, ren0, renB, only, sg, gmOf, wrN, buildCells, bsRows, Value.oneCell', setAt, eqCells, eqCell, vI, vB, vS, apartW, Nat.reduceEqDiff, Nat.reduceAdd, Nat.reduceSub, Nat.reduceMul, Nat.reduceLT, Nat.reduceLeDiff, Int.reduceEq, Int.reduceNe, Int.reduceLT, Int.reduceLE, reduceCtorEq, ↓reduceIte, ne_eq, eq_self, and_self, str_eq_iff, Int.toNat_natCast, attrS, attrR, aceS, aceR, e1, e0, e2]
          refine ⟨by omega, by omega, by omega, ?_⟩
          refine callL_of (order_spec (s.getD k default) (s.getD (k + 1) default)) [] false [] [] ?_ ?_
          · refine CallOk.of ?_ ?_ rfl ?_ rfl rfl rfl rfl ?_ rfl ?_ rfl
            all_goals simp [ML, args1, arg1, args0, lents1, lent1, lent0, lents0, lentB, rowsM, body0, only, sg, injB, apartB, keysOf, cur, resS, ↓get_cons', ↓hget_cons', Value.oneCell', eq_self, and_self, ne_eq, vI, rK_nil, rK_len, rK_take, rM_len, rM_take, Int.toNat_natCast, attrS, attrR, aceS, aceR, e1, cmpS_zero]
          simp -implicitDefEqProofs only [RL0, RL1, RL2, RL3, RL4, RL5, RL6, RL7, RL8, chkW, ↓get_cons', ↓hget_cons', ↓hset_cons', St.gh, isNil, evalA, opTs, LOp.args, Nat.reduceBEq, renS, ren1, ren0, renB, only, sg, gmOf, wrN, buildCells, bsRows, Value.oneCell', setAt, eqCells, eqCell, vI, vB, vS, apartW, Nat.reduceEqDiff, Nat.reduceAdd, Nat.reduceSub, Nat.reduceMul, Nat.reduceLT, Nat.reduceLeDiff, Int.reduceEq, Int.reduceNe, Int.reduceLT, Int.reduceLE, reduceCtorEq, ↓reduceIte, ne_eq, eq_self, and_self, str_eq_iff, Int.toNat_natCast, attrS, attrR, aceS, aceR, e1, cmpS_zero]
          exact hstep _ (by rw [twN, ht]; simp)
      · simp -implicitDefEqProofs only [RL0, RL1, RL2, RL3, RL4, RL5, RL6, RL7, RL8, chkW, ↓get_cons', ↓hget_cons', ↓hset_cons', St.gh, isNil, evalA, opTs, LOp.args, Nat.reduceBEq, renS, ren1, ren0, renB, only, sg, gmOf, wrN, buildCells, bsRows, Value.oneCell', setAt, eqCells, eqCell, vI, vB, vS, apartW, Nat.reduceEqDiff, Nat.reduceAdd, Nat.reduceSub, Nat.reduceMul, Nat.reduceLT, Nat.reduceLeDiff, Int.reduceEq, Int.reduceNe, Int.reduceLT, Int.reduceLE, reduceCtorEq, ↓reduceIte, ne_eq, eq_self, and_self, str_eq_iff, Int.toNat_natCast, attrS, attrR, aceS, aceR, e1]
        exact hstep true (by rw [twN, ht]; rfl)
  · have hall : ¬ ¬ ∀ a ∈ l, attrOk a := fun q => q fun a ha => by
      obtain ⟨j, hj, e⟩ := List.getElem_of_mem ((hm a).2 ha)
      rw [← e]
      have := h2 j (by omega)
      rwa [List.getD_eq_getElem?_getD, List.getElem?_eq_getElem hj] at this
    have hk : k = l.length := by omega
    subst hk
    have hn : norm l = if twN s l.length = true then ([], 6) else if 8 < l.length then ([], 13) else (s, 0) := by
      unfold norm
      rw [if_neg hall, hS]
    rw [hn]
    cases ht : twN s l.length
    · simp -implicitDefEqProofs only [RL0, RL1, RL2, RL3, RL4, RL5, RL6, RL7, RL8, chkW, ↓get_cons', ↓hget_cons', ↓hset_cons', St.gh, isNil, evalA, opTs, LOp.args, Nat.reduceBEq, renS, ren1, ren0, renB, only, sg, gmOf, wrN, buildCells, bsRows, Value.oneCell', setAt, eqCells, eqCell, vI, vB, vS, apartW, Nat.reduceEqDiff, Nat.reduceAdd, Nat.reduceSub, Nat.reduceMul, Nat.reduceLT, Nat.reduceLeDiff, Int.reduceEq, Int.reduceNe, Int.reduceLT, Int.reduceLE, reduceCtorEq, ↓reduceIte, ne_eq, eq_self, and_self, str_eq_iff, Int.toNat_natCast, attrS, attrR, aceS, aceR]
      refine ⟨fun h8 => ?_, fun h8 => ?_⟩
      · rw [if_pos (by omega)]
        refine RetOk.of [(1000, 502)] [] ?_ ?_ rfl ?_ rfl rfl ?_
        all_goals simp [ML, args1, arg1, args0, lents1, lent1, lent0, lents0, lentB, rowsM, body0, only, sg, injB, apartB, keysOf, cur, resS, ↓get_cons', ↓hget_cons', Value.oneCell', eq_self, and_self, ne_eq, vI, rK_nil, Int.toNat_natCast, attrS, attrR, aceS, aceR, rM]
      · rw [if_neg (by omega), ← hs]
        refine RetOk.of [(1000, 8)] [] ?_ ?_ rfl ?_ rfl rfl ?_
        all_goals simp [ML, args1, arg1, args0, lents1, lent1, lent0, lents0, lentB, rowsM, body0, only, sg, injB, apartB, keysOf, cur, resS, ↓get_cons', ↓hget_cons', Value.oneCell', eq_self, and_self, ne_eq, vI, rK_nil, Int.toNat_natCast, attrS, attrR, aceS, aceR]
    · simp -implicitDefEqProofs only [RL0, RL1, RL2, RL3, RL4, RL5, RL6, RL7, RL8, chkW, ↓get_cons', ↓hget_cons', ↓hset_cons', St.gh, isNil, evalA, opTs, LOp.args, Nat.reduceBEq, renS, ren1, ren0, renB, only, sg, gmOf, wrN, buildCells, bsRows, Value.oneCell', setAt, eqCells, eqCell, vI, vB, vS, apartW, Nat.reduceEqDiff, Nat.reduceAdd, Nat.reduceSub, Nat.reduceMul, Nat.reduceLT, Nat.reduceLeDiff, Int.reduceEq, Int.reduceNe, Int.reduceLT, Int.reduceLE, reduceCtorEq, ↓reduceIte, ne_eq, eq_self, and_self, str_eq_iff, Int.toNat_natCast, attrS, attrR, aceS, aceR]
      refine RetOk.of [(1000, 502)] [] ?_ ?_ rfl ?_ rfl rfl ?_
      all_goals simp [ML, args1, arg1, args0, lents1, lent1, lent0, lents0, lentB, rowsM, body0, only, sg, injB, apartB, keysOf, cur, resS, ↓get_cons', ↓hget_cons', Value.oneCell', eq_self, and_self, ne_eq, vI, rK_nil, Int.toNat_natCast, attrS, attrR, aceS, aceR, rM]
theorem attr_snoc (l : List At) (a b : ByteArray) : rM attrR l ++ [[.v (.string a), .v (.string b)]] = rM attrR (l ++ [(a, b)]) := by simp [rM, attrR]
theorem pos_split {lt : At → At → Bool} (x : At) (m : List At) : insR lt x m = m.take (m.length - (m.reverse.takeWhile (lt x)).length) ++ x :: m.drop (m.length - (m.reverse.takeWhile (lt x)).length) := by
  have h : m = (m.reverse.dropWhile (lt x)).reverse ++ (m.reverse.takeWhile (lt x)).reverse := by
    rw [← List.reverse_append, List.takeWhile_append_dropWhile, List.reverse_reverse]
  have hl : m.length - (m.reverse.takeWhile (lt x)).length = (m.reverse.dropWhile (lt x)).reverse.length := by
    have := congrArg List.length h
    simp only [List.length_append, List.length_reverse] at this
    simp only [List.length_reverse]
    omega
  rw [hl]
  unfold insR
  generalize (m.reverse.dropWhile (lt x)).reverse = A at *
  generalize (m.reverse.takeWhile (lt x)).reverse = B at *
  rw [h]
  simp
theorem refnorm_spec (l : List At) (hl : l.length < 20) : Eng.Spec Try.prog 22 [] [] [.d (.sl 2 (rM attrR l))] [(1000, ⟨0, .arr 2 (rM attrR (norm l).1)⟩)] (.tup [.view 1000 0 0 (norm l).1.length, .d (.v (.int .i64 (norm l).2))]) := by
  refine told_spec mixed f22_told f22_results f22_text rfl (by simp) rfl ?_
  simp only [initS, List.length_cons, List.length_nil, List.range, List.range.loop, List.getD_cons_zero, List.getD_cons_succ, List.cons_append, List.nil_append, Int.toNat_natCast, attrS, attrR, aceS, aceR]
  simp -implicitDefEqProofs only [RL0, RL1, RL2, RL3, RL4, RL5, RL6, RL7, RL8, chkW, ↓get_cons', ↓hget_cons', ↓hset_cons', St.gh, isNil, evalA, opTs, LOp.args, Nat.reduceBEq, renS, ren1, ren0, renB, only, sg, gmOf, wrN, buildCells, bsRows, Value.oneCell', setAt, eqCells, eqCell, vI, vB, vS, apartW, Nat.reduceEqDiff, Nat.reduceAdd, Nat.reduceSub, Nat.reduceMul, Nat.reduceLT, Nat.reduceLeDiff, Int.reduceEq, Int.reduceNe, Int.reduceLT, Int.reduceLE, reduceCtorEq, ↓reduceIte, ne_eq, eq_self, and_self, str_eq_iff]
  refine vc_loop (fun i : Nat => ⟨[(5, .d (.v (.int .i64 i))), (4, .view 504 0 0 i), (0, .d (.sl 2 (rM attrR l)))], [(504, ⟨0, .arr 2 (rM attrR (sortR ltA (l.take i)))⟩)]⟩)
    (fun i => i ≤ l.length ∧ ∀ j, j < i → attrOk (l.getD j default)) (fun i => l.length - i) 0 ⟨by omega, by omega⟩ (LE.refl _ _) ?_
  rintro i ⟨h1, h2⟩
  have e1 : IntKind.i64.wrap ((i : Int) + 1) = ((i + 1 : Nat) : Int) := by rw [i64_in _ (by omega)]; omega
  have hm : (sortR ltA (l.take i)).length = i := by rw [sortR_len, List.length_take]; omega
  simp -implicitDefEqProofs only [RL0, RL1, RL2, RL3, RL4, RL5, RL6, RL7, RL8, chkW, ↓get_cons', ↓hget_cons', ↓hset_cons', St.gh, isNil, evalA, opTs, LOp.args, Nat.reduceBEq, renS, ren1, ren0, renB, only, sg, gmOf, wrN, buildCells, bsRows, Value.oneCell', setAt, eqCells, eqCell, vI, vB, vS, apartW, Nat.reduceEqDiff, Nat.reduceAdd, Nat.reduceSub, Nat.reduceMul, Nat.reduceLT, Nat.reduceLeDiff, Int.reduceEq, Int.reduceNe, Int.reduceLT, Int.reduceLE, reduceCtorEq, ↓reduceIte, ne_eq, eq_self, and_self, str_eq_iff, Int.toNat_natCast, attrS, attrR, aceS, aceR]
  refine ⟨fun hk => ⟨by omega, by omega, ?_⟩, fun hk => ?_⟩
  · have hi : i < l.length := by omega
    have hgi : l.getD i default = l[i] := by rw [List.getD_eq_getElem?_getD, List.getElem?_eq_getElem hi]; rfl
    refine callL_of (refattr_spec (l.getD i default)) [] false [] [] ?_ ?_
    · refine CallOk.of ?_ ?_ rfl ?_ rfl rfl rfl rfl ?_ rfl ?_ rfl
      all_goals simp [ML, args1, arg1, args0, lents1, lent1, lent0, lents0, lentB, rowsM, body0, only, sg, injB, apartB, keysOf, cur, resS, ↓get_cons', ↓hget_cons', Value.oneCell', eq_self, and_self, ne_eq, vI, rK_nil, rK_len, rK_take, rM_len, rM_take, Int.toNat_natCast, attrS, attrR, aceS, aceR]
    simp -implicitDefEqProofs only [RL0, RL1, RL2, RL3, RL4, RL5, RL6, RL7, RL8, chkW, ↓get_cons', ↓hget_cons', ↓hset_cons', St.gh, isNil, evalA, opTs, LOp.args, Nat.reduceBEq, renS, ren1, ren0, renB, only, sg, gmOf, wrN, buildCells, bsRows, Value.oneCell', setAt, eqCells, eqCell, vI, vB, vS, apartW, Nat.reduceEqDiff, Nat.reduceAdd, Nat.reduceSub, Nat.reduceMul, Nat.reduceLT, Nat.reduceLeDiff, Int.reduceEq, Int.reduceNe, Int.reduceLT, Int.reduceLE, reduceCtorEq, ↓reduceIte, ne_eq, eq_self, and_self, str_eq_iff, Int.toNat_natCast, attrS, attrR, aceS, aceR]
    refine ⟨fun hg => ?_, fun hg => ?_⟩
    · have hn : norm l = ([], 1) := by
        unfold norm
        rw [if_pos]
        intro q
        refine hg (q _ ?_)
        rw [hgi]
        exact List.getElem_mem ..
      rw [hn]
      refine RetOk.of [(1000, 502)] [] ?_ ?_ rfl ?_ rfl rfl ?_
      all_goals simp [ML, args1, arg1, args0, lents1, lent1, lent0, lents0, lentB, rowsM, body0, only, sg, injB, apartB, keysOf, cur, resS, ↓get_cons', ↓hget_cons', Value.oneCell', eq_self, and_self, ne_eq, vI, rK_nil, Int.toNat_natCast, attrS, attrR, aceS, aceR, rM]
    · have hg' : attrOk (l.getD i default) := Decidable.not_not.1 hg
      have hst := sortR_step (lt := ltA) l i hi
      generalize hM : sortR ltA (l.take i) = M at *
      refine vc_loop (fun k : Nat => ⟨[(6, .d (.v (.int .i64 k))), (0, .d (.sl 2 (rM attrR l))), (5, .d (.v (.int .i64 i))), (4, .view 504 0 0 i)], [(504, ⟨0, .arr 2 (rM attrR M)⟩)]⟩)
        (fun k => ∃ A B, A.length = k ∧ M = A ++ B ∧ ∀ b ∈ B, ltA l[i] b = true) (fun k => k) i ⟨M, [], hm, by simp, by simp⟩ (LE.refl _ _) ?_
      rintro k ⟨A, B, g1, g2, g3⟩
      have hend : (∀ a ∈ A.getLast?, ltA l[i] a = false) → M.take k ++ (l[i] :: M.drop k) = sortR ltA (l.take (i + 1)) := fun h => by
        rw [hst, g2, insR_of g3 h, ← g1]; simp
      have hki : k ≤ i := by have := congrArg List.length g2; simp only [List.length_append] at this; omega
      have f1 : (M.take k).length = k := by rw [List.length_take]; omega
      have f2 : (M.take k ++ [l[i]]).length = k + 1 := by simp [f1]
      have f3 : (M.take k ++ [l[i]]).take (k + 1) = M.take k ++ [l[i]] := List.take_of_length_le (by omega)
      have f4 : (M.drop k).take (i - k) = M.drop k := List.take_of_length_le (by rw [List.length_drop]; omega)
      have f5 : M.take k ++ [l[i]] ++ M.drop k = M.take k ++ (l[i] :: M.drop k) := by simp
      have f6 : (M.drop k).length = i - k := by rw [List.length_drop]; omega
      have f8 : (M.take k).take k = M.take k := List.take_of_length_le (by omega)
      have f7 : k + 1 + (i - k) = i + 1 := by omega
      have hlast : (M.take k ++ (l[i] :: M.drop k) = sortR ltA (l.take (i + 1))) → (∃ y : Nat, (y ≤ l.length ∧ ∀ j, j < y → attrOk (l.getD j default)) ∧ l.length - y < l.length - i ∧ Eng.LE [] ⟨[(5, .d (.v (.int .i64 (i + 1 : Nat)))), (4, .view 41 0 0 (i + 1)), (0, .d (.sl 2 (rM attrR l)))], [(41, ⟨0, .arr 2 (rM attrR (M.take k ++ (l[i] :: M.drop k)))⟩)]⟩
          ⟨[(5, .d (.v (.int .i64 y))), (4, .view 504 0 0 y), (0, .d (.sl 2 (rM attrR l)))], [(504, ⟨0, .arr 2 (rM attrR (sortR ltA (l.take y)))⟩)]⟩) := by
        intro h
        refine ⟨i + 1, ⟨by omega, fun j hj => ?_⟩, by omega, ?_⟩
        · by_cases e : j = i
          · rw [e]; exact hg'
          · exact h2 j (by omega)
        · rw [h]
          refine LE.of [(504, 41)] [] ?_ ?_ rfl ?_ rfl rfl
          all_goals simp [ML, args1, arg1, args0, lents1, lent1, lent0, lents0, lentB, rowsM, body0, only, sg, injB, apartB, keysOf, cur, resS, ↓get_cons', ↓hget_cons', Value.oneCell', eq_self, and_self, ne_eq, vI, rK_nil, Int.toNat_natCast, attrS, attrR, aceS, aceR]
      rcases List.eq_nil_or_concat A with rfl | ⟨A', y, hA⟩
      · have hj : k = 0 := by simpa using g1.symm
        subst hj
        rw [List.take_zero] at f1 f2 f3 f5
        rw [List.drop_zero] at f4 f5 f6
        rw [List.nil_append] at f2 f3 f5
        have f9 : M.take i = M := List.take_of_length_le (by omega)
        have f10 : 1 + M.length = i + 1 := by omega
        simp -implicitDefEqProofs only [RL0, RL1, RL2, RL3, RL4, RL5, RL6, RL7, RL8, chkW, ↓get_cons', ↓hget_cons', ↓hset_cons', St.gh, isNil, evalA, opTs, LOp.args, Nat.reduceBEq, renS, ren1, ren0, renB, only, sg, gmOf, wrN, buildCells, bsRows, Value.oneCell', setAt, eqCells, eqCell, vI, vB, vS, apartW, Nat.reduceEqDiff, Nat.reduceAdd, Nat.reduceSub, Nat.reduceMul, Nat.reduceLT, Nat.reduceLeDiff, Int.reduceEq, Int.reduceNe, Int.reduceLT, Int.reduceLE, reduceCtorEq, ↓reduceIte, ne_eq, eq_self, and_self, str_eq_iff, Int.toNat_natCast, attrS, attrR, aceS, aceR, Int.natCast_zero, Int.lt_irrefl, Int.toNat_zero, e1, hgi, attr_snoc, Int.toNat_natCast, f9, f10]
        exact ⟨by omega, by omega, by omega, by omega, by omega, by omega, by omega, by omega, hlast (hend (by simp))⟩
      · rw [List.concat_eq_append] at hA
        subst hA
        obtain ⟨j, rfl⟩ : ∃ j, k = j + 1 := ⟨A'.length, by simpa using g1.symm⟩
        have hj : A'.length = j := by simpa using g1
        have e0 : ((0 : Int) < ((j + 1 : Nat) : Int)) = True := eq_true (by omega)
        have e2 : IntKind.i64.wrap (((j + 1 : Nat) : Int) - 1) = (j : Int) := by rw [i64_in _ (by omega)]; omega
        have r2 : M.getD j default = y := by rw [g2, List.append_assoc, List.getD_eq_getElem?_getD, List.getElem?_append_right (by omega)]; simp [hj]
        simp -implicitDefEqProofs only [RL0, RL1, RL2, RL3, RL4, RL5, RL6, RL7, RL8, chkW, ↓get_cons', ↓hget_cons', ↓hset_cons', St.gh, isNil, evalA, opTs, LOp.args, Nat.reduceBEq, renS, ren1, ren0, renB, only, sg, gmOf, wrN, buildCells, bsRows, Value.oneCell', setAt, eqCells, eqCell, vI, vB, vS, apartW, Nat.reduceEqDiff, Nat.reduceAdd, Nat.reduceSub, Nat.reduceMul, Nat.reduceLT, Nat.reduceLeDiff, Int.reduceEq, Int.reduceNe, Int.reduceLT, Int.reduceLE, reduceCtorEq, ↓reduceIte, ne_eq, eq_self, and_self, str_eq_iff, Int.toNat_natCast, attrS, attrR, aceS, aceR, e0, e2, r2, e1, hgi, attr_snoc, f1, f2, f3, f4, f5, f6, f7, f8, Int.toNat_natCast, Prod.eta]
        refine ⟨by omega, by omega, by omega, by omega, by omega, fun hc => ⟨j, ⟨A', y :: B, hj, by rw [g2]; simp, ?_⟩, by omega, LE.refl _ _⟩, fun hc => ⟨by omega, by omega, by omega, by omega, by omega, by omega, by omega, by omega, by omega, by omega, by omega, by omega, by omega, by omega, hlast (hend ?_)⟩⟩
        · intro b hb
          rcases List.mem_cons.1 hb with rfl | hb
          · exact hc
          · exact g3 b hb
        · intro a ha
          simp at ha
          subst ha
          rw [Bool.eq_false_iff]
          exact hc
  · have hk : i = l.length := by omega
    subst hk
    rw [List.take_length] at hm ⊢
    have hall : ¬ ¬ ∀ a ∈ l, attrOk a := fun q => q fun a ha => by
      obtain ⟨j, hj, e⟩ := List.getElem_of_mem ha
      rw [← e]
      have := h2 j (by omega)
      rwa [List.getD_eq_getElem?_getD, List.getElem?_eq_getElem hj] at this
    have hn : norm l = if twN (sortR ltA l) l.length = true then ([], 6) else if 8 < l.length then ([], 13) else (sortR ltA l, 0) := by
      unfold norm
      rw [if_neg hall]
    rw [hn]
    generalize sortR ltA l = M at *
    refine vc_loop (fun k : Nat => ⟨[(8, .d (.v (.int .i64 k))), (4, .view 504 0 0 l.length)], [(504, ⟨0, .arr 2 (rM attrR M)⟩)]⟩)
      (fun k => 1 ≤ k ∧ (k = 1 ∨ k ≤ l.length) ∧ twN M k = false) (fun k => l.length - k) 1 ⟨by omega, by omega, by simp [twN]⟩ (LE.refl _ _) ?_
    rintro k ⟨j1, j2, j3⟩
    have e2 : IntKind.i64.wrap ((k : Int) - 1) = ((k - 1 : Nat) : Int) := by rw [i64_in _ (by omega)]; omega
    have e3 : IntKind.i64.wrap ((k : Int) + 1) = ((k + 1 : Nat) : Int) := by rw [i64_in _ (by omega)]; omega
    have tw : ∀ k n, twN M k = true → twN M (k + n) = true := by
      intro k n h
      induction n with
      | zero => exact h
      | succ n ih => rw [← Nat.add_assoc, twN, ih]; rfl
    simp -implicitDefEqProofs only [RL0, RL1, RL2, RL3, RL4, RL5, RL6, RL7, RL8, chkW, ↓get_cons', ↓hget_cons', ↓hset_cons', St.gh, isNil, evalA, opTs, LOp.args, Nat.reduceBEq, renS, ren1, ren0, renB, only, sg, gmOf, wrN, buildCells, bsRows, Value.oneCell', setAt, eqCells, eqCell, vI, vB, vS, apartW, Nat.reduceEqDiff, Nat.reduceAdd, Nat.reduceSub, Nat.reduceMul, Nat.reduceLT, Nat.reduceLeDiff, Int.reduceEq, Int.reduceNe, Int.reduceLT, Int.reduceLE, reduceCtorEq, ↓reduceIte, ne_eq, eq_self, and_self, str_eq_iff, Int.toNat_natCast, attrS, attrR, aceS, aceR, e2, e3]
    refine ⟨fun h => ⟨by omega, by omega, by omega, by omega, by omega, by omega, fun hc => ?_, fun hc => ⟨k + 1, ⟨by omega, by omega, ?_⟩, by omega, LE.refl _ _⟩⟩, fun h => ?_⟩
    · have t1 : twN M (k + 1) = true := by rw [twN, hc]; simp; omega
      have t2 := tw (k + 1) (l.length - (k + 1)) t1
      rw [Nat.add_sub_cancel' (by omega)] at t2
      rw [if_pos t2]
      refine RetOk.of [(1000, 502)] [] ?_ ?_ rfl ?_ rfl rfl ?_
      all_goals simp [ML, args1, arg1, args0, lents1, lent1, lent0, lents0, lentB, rowsM, body0, only, sg, injB, apartB, keysOf, cur, resS, ↓get_cons', ↓hget_cons', Value.oneCell', eq_self, and_self, ne_eq, vI, rK_nil, Int.toNat_natCast, attrS, attrR, aceS, aceR, rM]
    · rw [twN, j3]
      simp
      intro _ q
      exact hc q.symm
    · have t : ¬ twN M l.length = true := by
        rcases j2 with rfl | j2
        · by_cases e : l.length = 0
          · rw [e]; simp [twN]
          · rw [show l.length = 1 by omega, j3]; decide
        · rw [show l.length = k by omega, j3]; decide
      rw [if_neg t]
      refine ⟨fun h8 => ?_, fun h8 => ?_⟩
      · rw [if_pos (by omega)]
        refine RetOk.of [(1000, 502)] [] ?_ ?_ rfl ?_ rfl rfl ?_
        all_goals simp [ML, args1, arg1, args0, lents1, lent1, lent0, lents0, lentB, rowsM, body0, only, sg, injB, apartB, keysOf, cur, resS, ↓get_cons', ↓hget_cons', Value.oneCell', eq_self, and_self, ne_eq, vI, rK_nil, Int.toNat_natCast, attrS, attrR, aceS, aceR, rM]
      · rw [if_neg (by omega), ← hm]
        refine RetOk.of [(1000, 504)] [] ?_ ?_ rfl ?_ rfl rfl ?_
        all_goals simp [ML, args1, arg1, args0, lents1, lent1, lent0, lents0, lentB, rowsM, body0, only, sg, injB, apartB, keysOf, cur, resS, ↓get_cons', ↓hget_cons', Value.oneCell', eq_self, and_self, ne_eq, vI, rK_nil, Int.toNat_natCast, attrS, attrR, aceS, aceR]
end Go.Proofs.Me
