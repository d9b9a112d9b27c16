import Derived.Test.YthbonnlhoaeflaaExA
import Derived.Test.YthbonnlhoaeflaaEngSm
set_option linter.unusedVariables false
set_option linter.unusedSimpArgs false
-- DEFS Int.toNat_natCast, cV, cR
namespace Go.Proofs.Ex
open Go.RowKit Go.Lib Go.Eng Go.Proofs Go.IntWalk
set_option maxRecDepth 100000
set_option linter.unusedVariables false
set_option linter.unusedSectionVars false
set_option maxHeartbeats 4000000
theorem c_set (l : List Z) (k : Nat) (a b : Nat) : (rM cR l).set k [.v (.complex .f64 (fl a) (fl b))] = rM cR (l.set k (a, b)) := by simp [rM, List.map_set, cR, cV]
def ltZ (a b : Z) : Bool := decide (a.1 < b.1)
theorem ltZ_neg (a b : Z) : cmpI (a.1 : Int) (b.1 : Int) < 0 ↔ ltZ a b = true := by
  unfold ltZ cmpI
  rw [decide_eq_true_eq]
  repeat' split
  all_goals omega
section
variable {α : Type} [Inhabited α]
theorem mid_get (P M S : List α) (k : Nat) (h : k < M.length) : (P ++ M ++ S).getD (P.length + k) default = M.getD k default := by
  rw [List.append_assoc, List.getD_eq_getElem?_getD, List.getElem?_append_right (by omega), List.getElem?_append_left (by omega), List.getD_eq_getElem?_getD]
  congr 2
  omega
theorem mid_set (P M S : List α) (k : Nat) (x : α) (h : k < M.length) : (P ++ M ++ S).set (P.length + k) x = P ++ M.set k x ++ S := by
  rw [List.append_assoc, List.set_append_right (h := by omega), List.set_append_left (h := by omega), List.append_assoc]
  congr 3
  omega
end
theorem isort_spec (P m S : List Z) (hok : ∀ z ∈ m, okZ z) (hl : (P ++ m ++ S).length ≤ 2 ^ 40) : Eng.Spec Try.prog 60 [1000] [(1000, ⟨0, .arr 1 (rM cR (P ++ m ++ S))⟩)] [.view 1000 0 0 (P ++ m ++ S).length, .d (.v (.int .i64 P.length)), .d (.v (.int .i64 (P.length + m.length : Nat))), .d (.v (.func (.func 32) #[] #[]))]
    [(1000, ⟨0, .arr 1 (rM cR (P ++ sortR ltZ m ++ S))⟩)] (.tup []) := by
  obtain ⟨n, hn⟩ : ∃ n, (P ++ m ++ S).length = n := ⟨_, rfl⟩
  have hn2 : n = P.length + m.length + S.length := by rw [← hn]; simp; omega
  rw [hn] at hl ⊢
  refine told_spec mixed f60_told f60_results f60_text rfl (by simp) rfl ?_
  simp only [initS, List.length_cons, List.length_nil, List.range, List.range.loop, List.getD_cons_zero, List.getD_cons_succ, List.cons_append, List.nil_append, Int.toNat_natCast, cV, cR]
  simp -implicitDefEqProofs only [RL0, RL1, RL2, RL3, RL4, RL5, RL6, RL7, RL8, RL9, chkW, ↓get_cons', ↓hget_cons', ↓hset_cons', St.gh, isNil, evalA, opTs, LOp.args, Nat.reduceBEq, renS, ren1, ren0, renB, only, sg, gmOf, wrN, buildCells, bsRows, Value.oneCell', setAt, eqCells, eqCell, vI, vB, vS, apartW, Nat.reduceEqDiff, Nat.reduceAdd, Nat.reduceSub, Nat.reduceMul, Nat.reduceLT, Nat.reduceLeDiff, Int.reduceEq, Int.reduceNe, Int.reduceLT, Int.reduceLE, reduceCtorEq, ↓reduceIte, ne_eq, eq_self, and_self, str_eq_iff]
  refine vc_loop (fun i : Nat => ⟨[(0, .view 1000 0 0 n), (8, .d (.v (.int .i64 (P.length + i : Nat)))), (3, .d (.v (.func (.func 32) #[] #[]))), (1, .d (.v (.int .i64 P.length))), (2, .d (.v (.int .i64 (P.length + m.length : Nat))))], [(1000, ⟨0, .arr 1 (rM cR (P ++ (sortR ltZ (m.take i) ++ m.drop i) ++ S))⟩)]⟩)
    (fun i => 1 ≤ i ∧ (i = 1 ∨ i ≤ m.length)) (fun i => m.length - i) 1 (by omega) ?_ ?_
  · rw [i64_in _ (by omega)]
    cases m with
    | nil => exact LE.refl _ _
    | cons a r => exact LE.refl _ _
  rintro i ⟨h1, h2⟩
  simp -implicitDefEqProofs only [RL0, RL1, RL2, RL3, RL4, RL5, RL6, RL7, RL8, RL9, chkW, ↓get_cons', ↓hget_cons', ↓hset_cons', St.gh, isNil, evalA, opTs, LOp.args, Nat.reduceBEq, renS, ren1, ren0, renB, only, sg, gmOf, wrN, buildCells, bsRows, Value.oneCell', setAt, eqCells, eqCell, vI, vB, vS, apartW, Nat.reduceEqDiff, Nat.reduceAdd, Nat.reduceSub, Nat.reduceMul, Nat.reduceLT, Nat.reduceLeDiff, Int.reduceEq, Int.reduceNe, Int.reduceLT, Int.reduceLE, reduceCtorEq, ↓reduceIte, ne_eq, eq_self, and_self, str_eq_iff, Int.toNat_natCast, cV, cR]
  have hl1 : (sortR ltZ (m.take i) ++ m.drop i).length = m.length := by simp [sortR_len]; omega
  refine ⟨fun hi => ?_, fun hi => ?_⟩
  · have hi : i < m.length := by omega
    refine vc_loop (fun x : Nat × List Z => ⟨[(9, .d (.v (.int .i64 (P.length + x.1 : Nat)))), (0, .view 1000 0 0 n), (3, .d (.v (.func (.func 32) #[] #[]))), (1, .d (.v (.int .i64 P.length))), (2, .d (.v (.int .i64 (P.length + m.length : Nat)))), (8, .d (.v (.int .i64 (P.length + i : Nat))))], [(1000, ⟨0, .arr 1 (rM cR (P ++ x.2 ++ S))⟩)]⟩)
      (fun x => ∃ A B, A.length = x.1 ∧ A ++ B = sortR ltZ (m.take i) ∧ (∀ b ∈ B, ltZ m[i] b = true) ∧ x.2 = A ++ m[i] :: (B ++ m.drop (i + 1))) (fun x => x.1) (i, sortR ltZ (m.take i) ++ m.drop i)
      ⟨sortR ltZ (m.take i), [], by simp [sortR_len]; omega, List.append_nil _, by simp, by rw [List.nil_append, List.drop_eq_getElem_cons hi]⟩ (LE.refl _ _) ?_
    rintro ⟨j, M⟩ ⟨A, B, g1, g2, g3, g4⟩
    simp only at g1 g2 g3 g4
    have hAB : A.length + B.length = i := by rw [← List.length_append, g2, sortR_len, List.length_take]; omega
    have hM : M.length = m.length := by rw [g4]; simp; omega
    have hPM : (P ++ M ++ S).length = n := by simp; omega
    have hend : (∀ a ∈ A.getLast?, ltZ m[i] a = false) → M = sortR ltZ (m.take (i + 1)) ++ m.drop (i + 1) := fun h => by
      rw [sortR_step _ _ hi, ← g2, insR_of g3 h, g4]; simp
    have e1 : IntKind.i64.wrap (((P.length + i : Nat) : Int) + 1) = ((P.length + (i + 1) : Nat) : Int) := by rw [i64_in _ (by omega)]; omega
    rcases List.eq_nil_or_concat A with rfl | ⟨A', y, hA⟩
    · have hj : j = 0 := by simpa using g1.symm
      subst hj
      simp -implicitDefEqProofs only [RL0, RL1, RL2, RL3, RL4, RL5, RL6, RL7, RL8, RL9, chkW, ↓get_cons', ↓hget_cons', ↓hset_cons', St.gh, isNil, evalA, opTs, LOp.args, Nat.reduceBEq, renS, ren1, ren0, renB, only, sg, gmOf, wrN, buildCells, bsRows, Value.oneCell', setAt, eqCells, eqCell, vI, vB, vS, apartW, Nat.reduceEqDiff, Nat.reduceAdd, Nat.reduceSub, Nat.reduceMul, Nat.reduceLT, Nat.reduceLeDiff, Int.reduceEq, Int.reduceNe, Int.reduceLT, Int.reduceLE, reduceCtorEq, ↓reduceIte, ne_eq, eq_self, and_self, str_eq_iff, Int.toNat_natCast, cV, cR, e1, Nat.add_zero, Int.lt_irrefl]
      refine ⟨i + 1, ⟨by omega, by omega⟩, by omega, ?_⟩
      rw [hend (by simp)]
      exact LE.refl _ _
    · rw [List.concat_eq_append] at hA
      subst hA
      obtain ⟨j, rfl⟩ : ∃ k, j = k + 1 := ⟨A'.length, by simpa using g1.symm⟩
      have hj : A'.length = j := by simpa using g1
      have e0 : ((P.length : Int) < ((P.length + (j + 1) : Nat) : Int)) = True := eq_true (by omega)
      have e2 : IntKind.i64.wrap (((P.length + (j + 1) : Nat) : Int) - 1) = ((P.length + j : Nat) : Int) := by rw [i64_in _ (by omega)]; omega
      have r1 : (P ++ M ++ S).getD (P.length + (j + 1)) default = m[i] := by rw [mid_get _ _ _ _ (by simp at g1 hAB; omega), g4, List.getD_eq_getElem?_getD, List.getElem?_append_right (by simp [hj])]; simp [hj]
      have r2 : (P ++ M ++ S).getD (P.length + j) default = y := by rw [mid_get _ _ _ _ (by simp at g1 hAB; omega), g4, List.append_assoc, List.getD_eq_getElem?_getD, List.getElem?_append_right (by omega)]; simp [hj]
      have hy : y ∈ m := by
        have : y ∈ sortR ltZ (m.take i) := by rw [← g2]; simp
        exact List.mem_of_mem_take ((sortR_perm _).mem_iff.1 this)
      simp -implicitDefEqProofs only [RL0, RL1, RL2, RL3, RL4, RL5, RL6, RL7, RL8, RL9, chkW, ↓get_cons', ↓hget_cons', ↓hset_cons', St.gh, isNil, evalA, opTs, LOp.args, Nat.reduceBEq, renS, ren1, ren0, renB, only, sg, gmOf, wrN, buildCells, bsRows, Value.oneCell', setAt, eqCells, eqCell, vI, vB, vS, apartW, Nat.reduceEqDiff, Nat.reduceAdd, Nat.reduceSub, Nat.reduceMul, Nat.reduceLT, Nat.reduceLeDiff, Int.reduceEq, Int.reduceNe, Int.reduceLT, Int.reduceLE, reduceCtorEq, ↓reduceIte, ne_eq, eq_self, and_self, str_eq_iff, Int.toNat_natCast, cV, cR, e0, e2, r1, r2]
      refine ⟨by omega, by omega, by omega, by omega, by omega, by omega, by kernel_rfl, ?_⟩
      have c1 := cmp_spec m[i] y (hok _ (List.getElem_mem ..)) (hok _ hy)
      refine callL_of (c1) [] false [] [] ?_ ?_
      · refine CallOk.of ?_ ?_ rfl ?_ rfl rfl rfl rfl ?_ rfl ?_ rfl
        all_goals simp [ML, args1, arg1, args0, lents1, lent1, lent0, lents0, lentB, rowsM, body0, only, sg, injB, apartB, keysOf, cur, resS, ↓get_cons', ↓hget_cons', Value.oneCell', eq_self, and_self, ne_eq, vI, rK_nil, rK_len, rK_take, rM_len, rM_take, Int.toNat_natCast, cV, cR, c_set, List.length_set, e1, e2, r1, r2]
      simp -implicitDefEqProofs only [RL0, RL1, RL2, RL3, RL4, RL5, RL6, RL7, RL8, RL9, chkW, ↓get_cons', ↓hget_cons', ↓hset_cons', St.gh, isNil, evalA, opTs, LOp.args, Nat.reduceBEq, renS, ren1, ren0, renB, only, sg, gmOf, wrN, buildCells, bsRows, Value.oneCell', setAt, eqCells, eqCell, vI, vB, vS, apartW, Nat.reduceEqDiff, Nat.reduceAdd, Nat.reduceSub, Nat.reduceMul, Nat.reduceLT, Nat.reduceLeDiff, Int.reduceEq, Int.reduceNe, Int.reduceLT, Int.reduceLE, reduceCtorEq, ↓reduceIte, ne_eq, eq_self, and_self, str_eq_iff, Int.toNat_natCast, cV, cR, c_set, List.length_set, e1, e2, r1, r2]
      have q1 : ((P ++ M ++ S).set (P.length + (j + 1)) y).set (P.length + j) m[i] = P ++ (A' ++ m[i] :: (y :: B ++ m.drop (i + 1))) ++ S := by
        have q2 : (M.set (j + 1) y).set j m[i] = A' ++ m[i] :: (y :: B ++ m.drop (i + 1)) := by
          rw [g4, List.append_assoc, List.set_append_right (h := by omega), List.set_append_right (h := by omega), hj]
          simp
        rw [mid_set _ _ _ _ _ (by simp at g1 hAB; omega), mid_set _ _ _ _ _ (by rw [List.length_set]; simp at g1 hAB; omega), q2]
      refine ⟨fun hc => ?_, fun hc => ⟨i + 1, ⟨by omega, by omega⟩, by omega, ?_⟩⟩
      · rw [q1]
        refine ⟨by omega, by omega, by omega, by omega, by omega, by omega, by omega, by omega, by omega, by omega, by omega, by omega, (j, A' ++ m[i] :: (y :: B ++ m.drop (i + 1))), ⟨A', y :: B, hj, by rw [← g2]; simp, ?_, rfl⟩, by simp only; omega, LE.refl _ _⟩
        intro b hb
        rcases List.mem_cons.1 hb with rfl | hb
        · exact (ltZ_neg _ _).1 hc
        · exact g3 b hb
      · rw [hend (fun a ha => by simp at ha; subst ha; rw [Bool.eq_false_iff]; exact fun h => hc ((ltZ_neg _ _).2 h))]
        exact LE.refl _ _
  · rw [List.take_of_length_le (by omega), List.drop_of_length_le (by omega), List.append_nil]
    refine RetOk.of [(1000, 1000)] [] ?_ ?_ rfl ?_ rfl rfl ?_
    all_goals simp [ML, args1, arg1, args0, lents1, lent1, lent0, lents0, lentB, rowsM, body0, only, sg, injB, apartB, keysOf, cur, resS, ↓get_cons', ↓hget_cons', Value.oneCell', eq_self, and_self, ne_eq, vI, rK_nil, Int.toNat_natCast, cV, cR]
end Go.Proofs.Ex
