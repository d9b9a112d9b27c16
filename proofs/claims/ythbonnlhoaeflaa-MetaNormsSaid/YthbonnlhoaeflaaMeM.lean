import Derived.Test.YthbonnlhoaeflaaMeL
import Derived.Test.YthbonnlhoaeflaaMeN
set_option linter.unusedVariables false
set_option linter.unusedSimpArgs false
-- DEFS fold11, strR, attr_snoc, Int.toNat_natCast, attrS, attrR, aceS, aceR, metaS, metaC
namespace Go.Proofs.Me
open Go.RowKit Go.Lib Go.Eng Go.Proofs Go.IntWalk
set_option maxRecDepth 100000
set_option maxHeartbeats 4000000
theorem bq : ((true == true) = true ∧ (true == false) = false ∧ (false == true) = false ∧ (false == false) = true) := by decide
def strR (s : ByteArray) : List D := [.v (.string s)]
def names : List ByteArray := [⟨#[97]⟩, ⟨#[98]⟩, ⟨#[99]⟩, ⟨#[97, 98]⟩, ⟨#[98, 99]⟩, ⟨#[97, 98, 99]⟩, ⟨#[122]⟩, ⟨#[122, 97]⟩, ⟨#[113]⟩, ⟨#[113, 113]⟩, ⟨#[120]⟩]
theorem fold11 : ([[.v (.string ⟨#[97]⟩)], [.v (.string ⟨#[98]⟩)], [.v (.string ⟨#[99]⟩)], [.v (.string ⟨#[97, 98]⟩)], [.v (.string ⟨#[98, 99]⟩)], [.v (.string ⟨#[97, 98, 99]⟩)], [.v (.string ⟨#[122]⟩)], [.v (.string ⟨#[122, 97]⟩)], [.v (.string ⟨#[113]⟩)], [.v (.string ⟨#[113, 113]⟩)], [.v (.string ⟨#[120]⟩)]] : List (List D)) = rM strR names := rfl
theorem names_len : names.length = 11 := rfl
theorem names_ok : ∀ n ∈ names, attrOk (n, (⟨#[118]⟩ : ByteArray)) := by decide +kernel
instance (l : List At) : Decidable (namesN l) := by unfold namesN; infer_instance
def tw (A : List At) : Bool := decide (¬ namesN A)
def hasN (A : List At) (n : ByteArray) : Nat → Bool
  | 0 => false
  | k + 1 => hasN A n k || decide ((A.getD k default).1 = n)
theorem hasN_iff (A : List At) (n : ByteArray) : ∀ k, hasN A n k = true ↔ ∃ j, j < k ∧ (A.getD j default).1 = n
  | 0 => by simp [hasN]
  | k + 1 => by
    rw [hasN, Bool.or_eq_true, hasN_iff A n k, decide_eq_true_eq]
    constructor
    · rintro (⟨j, h1, h2⟩ | h)
      · exact ⟨j, by omega, h2⟩
      · exact ⟨k, by omega, h⟩
    · rintro ⟨j, h1, h2⟩
      by_cases e : j = k
      · subst e; exact .inr h2
      · exact .inl ⟨j, by omega, h2⟩
theorem tw_snoc (A : List At) (n v : ByteArray) : tw (A ++ [(n, v)]) = (tw A || hasN A n A.length) := by
  have h : (¬ namesN (A ++ [(n, v)])) ↔ (¬ namesN A ∨ hasN A n A.length = true) := by
    rw [hasN_iff]
    unfold namesN
    rw [List.map_append, List.nodup_append]
    constructor
    · intro h
      by_cases h1 : (A.map Prod.fst).Nodup
      · right
        by_cases h2 : ∃ j, j < A.length ∧ (A.getD j default).1 = n
        · exact h2
        · exfalso
          refine h ⟨h1, by simp, ?_⟩
          intro a ha b hb e
          simp only [List.map_cons, List.map_nil, List.mem_singleton] at hb
          obtain ⟨t, ht, rfl⟩ := List.mem_map.1 ha
          obtain ⟨j, hj, rfl⟩ := List.getElem_of_mem ht
          exact h2 ⟨j, hj, by rw [getD_eq hj, e, hb]⟩
      · exact .inl h1
    · rintro (h | ⟨j, hj, h⟩) q
      · exact h q.1
      · rw [getD_eq hj] at h
        exact q.2.2 _ (List.mem_map.2 ⟨A[j], List.getElem_mem .., rfl⟩) n (by simp) h
  unfold tw
  by_cases h1 : namesN (A ++ [(n, v)])
  · have h2 := (not_congr h).1 (fun q => q h1)
    rw [not_or] at h2
    simp [h1, Decidable.not_not.1 h2.1, h2.2]
  · rcases h.1 h1 with h2 | h2
    · simp [h1, h2]
    · simp [h1, h2]
theorem tw_nil : tw [] = false := by decide
theorem norms_spec (l : List Int) (hl : l.length ≤ 2 ^ 47) : Eng.Spec Try.prog 9 [] [] [.d (.sl 1 (rK .i64 l))] [] (.d (.v (.bool true))) := by
  refine told_spec mixed f9_told f9_results f9_text rfl (by simp) rfl ?_
  simp only [initS, List.length_cons, List.length_nil, List.range, List.range.loop, List.getD_cons_zero, List.getD_cons_succ, List.cons_append, List.nil_append, fold11, strR, attr_snoc, Int.toNat_natCast, attrS, attrR, aceS, aceR, metaS, metaC]
  simp -implicitDefEqProofs only [RL0, RL1, RL2, RL3, RL4, RL5, RL6, RL7, RL8, chkW, ↓get_cons', ↓hget_cons', ↓hset_cons', St.gh, isNil, evalA, opTs, LOp.args, Nat.reduceBEq, renS, ren1, ren0, renB, only, sg, gmOf, wrN, buildCells, bsRows, Value.oneCell', setAt, eqCells, eqCell, vI, vB, vS, apartW, Nat.reduceEqDiff, Nat.reduceAdd, Nat.reduceSub, Nat.reduceMul, Nat.reduceLT, Nat.reduceLeDiff, Int.reduceEq, Int.reduceNe, Int.reduceLT, Int.reduceLE, reduceCtorEq, ↓reduceIte, ne_eq, eq_self, and_self, str_eq_iff]
  refine vc_loop (fun x : Nat × List At => ⟨[(3, .view 503 0 0 x.1), (5, .d (.v (.bool (tw x.2)))), (6, .d (.v (.int .i64 x.1))), (4, .view 504 0 0 x.1), (0, .d (.sl 1 (rK .i64 l)))], [(503, ⟨0, .arr 2 (rM attrR x.2)⟩), (504, ⟨0, .arr 2 (rM attrR x.2.reverse)⟩)]⟩)
    (fun x => x.2.length = x.1 ∧ x.1 ≤ 8 ∧ ∀ a ∈ x.2, a.1 ∈ names ∧ a.2 = ⟨#[118]⟩) (fun x => 8 - x.1) (0, []) ⟨rfl, by omega, by simp⟩ (by simp only [tw_nil]; exact LE.refl _ _) ?_
  rintro ⟨i, A⟩ ⟨g1, g2, g3⟩
  simp only at g1 g2 g3
  have e3 : IntKind.i64.wrap ((i : Int) + 1) = ((i + 1 : Nat) : Int) := by rw [i64_in _ (by omega)]; omega
  by_cases hi : i < l.length ∧ i < 8
  · have e1 : ((i : Int) < (l.length : Int)) = True := eq_true (by omega)
    have e2 : ((i : Int) < 8) = True := eq_true (by omega)
    have hu : 0 ≤ IntKind.u64.wrap (l.getD i 0) := by simp only [IntKind.wrap, IntKind.signed, IntKind.bits, Bool.false_and]; simp; omega
    obtain ⟨c, hc⟩ : ∃ c : Nat, (IntKind.u64.wrap (l.getD i 0)).tmod 11 = c := ⟨((IntKind.u64.wrap (l.getD i 0)).tmod 11).toNat, by have := Int.tmod_nonneg 11 hu; omega⟩
    have hc2 : (c : Int) < 11 := by rw [← hc]; exact Int.tmod_lt_of_pos _ (by omega)
    have hn : names.getD c default ∈ names := by
      rw [List.getD_eq_getElem?_getD, List.getElem?_eq_getElem (show c < names.length by rw [names_len]; omega)]
      exact List.getElem_mem ..
    simp -implicitDefEqProofs only [RL0, RL1, RL2, RL3, RL4, RL5, RL6, RL7, RL8, chkW, ↓get_cons', ↓hget_cons', ↓hset_cons', St.gh, isNil, evalA, opTs, LOp.args, Nat.reduceBEq, renS, ren1, ren0, renB, only, sg, gmOf, wrN, buildCells, bsRows, Value.oneCell', setAt, eqCells, eqCell, vI, vB, vS, apartW, Nat.reduceEqDiff, Nat.reduceAdd, Nat.reduceSub, Nat.reduceMul, Nat.reduceLT, Nat.reduceLeDiff, Int.reduceEq, Int.reduceNe, Int.reduceLT, Int.reduceLE, reduceCtorEq, ↓reduceIte, ne_eq, eq_self, and_self, str_eq_iff, fold11, strR, attr_snoc, Int.toNat_natCast, attrS, attrR, aceS, aceR, metaS, metaC, e1, e2, e3, hc, names_len]
    generalize hw : names.getD c default = n at *
    repeat refine And.intro (by omega) ?_
    refine vc_loop (fun k : Nat => ⟨[(8, .d (.v (.int .i64 k))), (7, .d (.v (.string n))), (3, .view 503 0 0 i), (5, .d (.v (.bool (tw A || hasN A n k)))), (0, .d (.sl 1 (rK .i64 l))), (6, .d (.v (.int .i64 i))), (4, .view 504 0 0 i)], [(503, ⟨0, .arr 2 (rM attrR A)⟩), (504, ⟨0, .arr 2 (rM attrR A.reverse)⟩)]⟩)
      (fun k => k ≤ i) (fun k => i - k) 0 (by omega) (by simp only [hasN, Bool.or_false]; exact LE.refl _ _) ?_
    rintro k g4
    have e4 : IntKind.i64.wrap ((k : Int) + 1) = ((k + 1 : Nat) : Int) := by rw [i64_in _ (by omega)]; omega
    by_cases hk : k < i
    · have e5 : ((k : Int) < (i : Int)) = True := eq_true (by omega)
      cases ht : (tw A || hasN A n k)
      · simp -implicitDefEqProofs only [RL0, RL1, RL2, RL3, RL4, RL5, RL6, RL7, RL8, chkW, ↓get_cons', ↓hget_cons', ↓hset_cons', St.gh, isNil, evalA, opTs, LOp.args, Nat.reduceBEq, renS, ren1, ren0, renB, only, sg, gmOf, wrN, buildCells, bsRows, Value.oneCell', setAt, eqCells, eqCell, vI, vB, vS, apartW, Nat.reduceEqDiff, Nat.reduceAdd, Nat.reduceSub, Nat.reduceMul, Nat.reduceLT, Nat.reduceLeDiff, Int.reduceEq, Int.reduceNe, Int.reduceLT, Int.reduceLE, reduceCtorEq, ↓reduceIte, ne_eq, eq_self, and_self, str_eq_iff, fold11, strR, attr_snoc, Int.toNat_natCast, attrS, attrR, aceS, aceR, metaS, metaC, e5, e4, ht]
        repeat refine And.intro (by omega) ?_
        refine ⟨k + 1, by omega, by omega, ?_⟩
        rw [hasN, ← Bool.or_assoc, ht, Bool.false_or]
        exact LE.refl _ _
      · simp -implicitDefEqProofs only [RL0, RL1, RL2, RL3, RL4, RL5, RL6, RL7, RL8, chkW, ↓get_cons', ↓hget_cons', ↓hset_cons', St.gh, isNil, evalA, opTs, LOp.args, Nat.reduceBEq, renS, ren1, ren0, renB, only, sg, gmOf, wrN, buildCells, bsRows, Value.oneCell', setAt, eqCells, eqCell, vI, vB, vS, apartW, Nat.reduceEqDiff, Nat.reduceAdd, Nat.reduceSub, Nat.reduceMul, Nat.reduceLT, Nat.reduceLeDiff, Int.reduceEq, Int.reduceNe, Int.reduceLT, Int.reduceLE, reduceCtorEq, ↓reduceIte, ne_eq, eq_self, and_self, str_eq_iff, fold11, strR, attr_snoc, Int.toNat_natCast, attrS, attrR, aceS, aceR, metaS, metaC, e5, e4, ht]
        refine ⟨k + 1, by omega, by omega, ?_⟩
        rw [hasN, ← Bool.or_assoc, ht, Bool.true_or]
        exact LE.refl _ _
    · have hk' : k = i := by omega
      subst hk'
      have e5 : ((k : Int) < (k : Int)) = False := eq_false (by omega)
      simp -implicitDefEqProofs only [RL0, RL1, RL2, RL3, RL4, RL5, RL6, RL7, RL8, chkW, ↓get_cons', ↓hget_cons', ↓hset_cons', St.gh, isNil, evalA, opTs, LOp.args, Nat.reduceBEq, renS, ren1, ren0, renB, only, sg, gmOf, wrN, buildCells, bsRows, Value.oneCell', setAt, eqCells, eqCell, vI, vB, vS, apartW, Nat.reduceEqDiff, Nat.reduceAdd, Nat.reduceSub, Nat.reduceMul, Nat.reduceLT, Nat.reduceLeDiff, Int.reduceEq, Int.reduceNe, Int.reduceLT, Int.reduceLE, reduceCtorEq, ↓reduceIte, ne_eq, eq_self, and_self, str_eq_iff, fold11, strR, attr_snoc, Int.toNat_natCast, attrS, attrR, aceS, aceR, metaS, metaC, e5, e4]
      have t1 : List.take k A = A := List.take_of_length_le (by omega)
      have t2 : List.take k A.reverse = A.reverse := List.take_of_length_le (by simp; omega)
      have t3 : A.reverse.length = k := by simp; omega
      have t4 : ([D.v (Value.string n), D.v (Value.string ⟨#[118]⟩)] :: rM attrR A.reverse) = rM attrR (A ++ [(n, (⟨#[118]⟩ : ByteArray))]).reverse := by simp [rM, attrR]
      have t5 : (tw A || hasN A n k) = tw (A ++ [(n, (⟨#[118]⟩ : ByteArray))]) := by rw [tw_snoc, g1]
      rw [t1, t2, t3, t4, t5, Nat.add_comm 1 k]
      refine ⟨by omega, by omega, by omega, by omega, by omega, by omega, (k + 1, A ++ [(n, (⟨#[118]⟩ : ByteArray))]), ⟨by simp; omega, by omega, ?_⟩, by simp only; omega, ?_⟩
      · intro a ha
        rcases List.mem_append.1 ha with ha | ha
        · exact g3 a ha
        · rw [List.mem_singleton.1 ha]; exact ⟨hn, rfl⟩
      · refine LE.of [(503, 503), (504, 57)] [] ?_ ?_ rfl ?_ rfl rfl
        all_goals simp [ML, args1, arg1, args0, lents1, lent1, lent0, lents0, lentB, rowsM, body0, only, sg, injB, apartB, keysOf, cur, resS, ↓get_cons', ↓hget_cons', Value.oneCell', eq_self, and_self, ne_eq]
  · have hok : ∀ a ∈ A, attrOk a := fun a ha => by
      obtain ⟨n, v⟩ := a
      have := g3 _ ha
      simp only at this
      rw [this.2]
      exact names_ok n this.1
    have hokr : ∀ a ∈ A.reverse, attrOk a := fun a ha => hok a (List.mem_reverse.1 ha)
    have hrl : A.reverse.length = i := by rw [List.length_reverse]; exact g1
    have a1 := norm_spec A (by omega)
    have a2 := norm_spec A.reverse (by omega)
    by_cases hnm : namesN A
    · have ht : tw A = false := by simp [tw, hnm]
      have ho := norm_ok hok (by omega) hnm
      rw [norm_both hok (by omega) hnm] at a2
      rw [ho.1] at a1 a2
      have hS := ho.2
      have hSl : (sortR ltA A).length = i := by rw [sortR_len]; exact g1
      have hSo := ok_strict (s := sortR ltA A) (fun a ha => hok a ((sortR_perm A).mem_iff.1 ha)) hS
      generalize sortR ltA A = T at *
      have c1 : (i : Int) < l.length → ((i : Int) < 8) = False := fun h => eq_false (by omega)
      rw [ht]
      have f1 : List.take i A = A := List.take_of_length_le (by omega)
      have f2 : List.take i A.reverse = A.reverse := List.take_of_length_le (by omega)
      have f0 : i ≤ A.length := by omega
      have f4 : i ≤ A.reverse.length := by omega
      simp only at a1 a2
      have b1 := may_spec ⟨0, 0, 0, 0, T, []⟩ ⟨by simp only; omega, by simp⟩
      have b2 := may_spec ⟨0, 0, 0, 0, A, []⟩ ⟨by simp only; omega, by simp⟩
      have b3 := may_spec ⟨0, 0, 0, 0, A.reverse, []⟩ ⟨by simp only; omega, by simp⟩
      have hac : mayA [] := ⟨okN_zero _ _ _, by simp, .inl rfl⟩
      have hb1 : decide (mayM ⟨0, 0, 0, 0, T, []⟩) = true := decide_eq_true ⟨by simp only; omega, hSo, by simp only; omega, hac⟩
      rw [hb1] at b1
      have hb : decide (mayM ⟨0, 0, 0, 0, A, []⟩) = true → decide (mayM ⟨0, 0, 0, 0, A.reverse, []⟩) = true → A.length < 2 := fun q1 q2 => ok_rev (of_decide_eq_true q1).2.1 (of_decide_eq_true q2).2.1
      generalize decide (mayM ⟨0, 0, 0, 0, A, []⟩) = B2 at *
      generalize decide (mayM ⟨0, 0, 0, 0, A.reverse, []⟩) = B3 at *
      rcases Nat.lt_or_ge i l.length with hq | hq
      · have e1 : ((i : Int) < (l.length : Int)) = True := eq_true (by omega)
        have e2 : ((i : Int) < 8) = False := eq_false (by omega)
        simp -implicitDefEqProofs only [RL0, RL1, RL2, RL3, RL4, RL5, RL6, RL7, RL8, chkW, ↓get_cons', ↓hget_cons', ↓hset_cons', St.gh, isNil, evalA, opTs, LOp.args, Nat.reduceBEq, renS, ren1, ren0, renB, only, sg, gmOf, wrN, buildCells, bsRows, Value.oneCell', setAt, eqCells, eqCell, vI, vB, vS, apartW, Nat.reduceEqDiff, Nat.reduceAdd, Nat.reduceSub, Nat.reduceMul, Nat.reduceLT, Nat.reduceLeDiff, Int.reduceEq, Int.reduceNe, Int.reduceLT, Int.reduceLE, reduceCtorEq, ↓reduceIte, ne_eq, eq_self, and_self, str_eq_iff, fold11, strR, attr_snoc, Int.toNat_natCast, attrS, attrR, aceS, aceR, metaS, metaC, e1, e2]
        refine callL_of (a1) [(1000, 62)] true [503] [] ?_ ?_
        · refine CallOk.of ?_ ?_ rfl ?_ rfl rfl rfl rfl ?_ rfl ?_ rfl
          all_goals simp [ML, args1, arg1, args0, lents1, lent1, lent0, lents0, lentB, rowsM, body0, only, sg, injB, apartB, keysOf, cur, resS, ↓get_cons', ↓hget_cons', Value.oneCell', eq_self, and_self, ne_eq, vI, rK_nil, rK_len, rK_take, rM_len, rM_take, fold11, strR, attr_snoc, Int.toNat_natCast, attrS, attrR, aceS, aceR, metaS, metaC, S.flat2, S.flat1, S.flat, Body.flat, rM_flat, rA_flat, f1, hSl, f0]
        simp -implicitDefEqProofs only [RL0, RL1, RL2, RL3, RL4, RL5, RL6, RL7, RL8, chkW, ↓get_cons', ↓hget_cons', ↓hset_cons', St.gh, isNil, evalA, opTs, LOp.args, Nat.reduceBEq, renS, ren1, ren0, renB, only, sg, gmOf, wrN, buildCells, bsRows, Value.oneCell', setAt, eqCells, eqCell, vI, vB, vS, apartW, Nat.reduceEqDiff, Nat.reduceAdd, Nat.reduceSub, Nat.reduceMul, Nat.reduceLT, Nat.reduceLeDiff, Int.reduceEq, Int.reduceNe, Int.reduceLT, Int.reduceLE, reduceCtorEq, ↓reduceIte, ne_eq, eq_self, and_self, str_eq_iff, fold11, strR, attr_snoc, Int.toNat_natCast, attrS, attrR, aceS, aceR, metaS, metaC]
        refine callL_of (a2) [(1000, 67)] true [504] [] ?_ ?_
        · refine CallOk.of ?_ ?_ rfl ?_ rfl rfl rfl rfl ?_ rfl ?_ rfl
          all_goals simp [ML, args1, arg1, args0, lents1, lent1, lent0, lents0, lentB, rowsM, body0, only, sg, injB, apartB, keysOf, cur, resS, ↓get_cons', ↓hget_cons', Value.oneCell', eq_self, and_self, ne_eq, vI, rK_nil, rK_len, rK_take, rM_len, rM_take, fold11, strR, attr_snoc, Int.toNat_natCast, attrS, attrR, aceS, aceR, metaS, metaC, hSl, S.flat2, S.flat1, S.flat, Body.flat, rM_flat, rA_flat, f2, hSl, f0]
        simp -implicitDefEqProofs only [RL0, RL1, RL2, RL3, RL4, RL5, RL6, RL7, RL8, chkW, ↓get_cons', ↓hget_cons', ↓hset_cons', St.gh, isNil, evalA, opTs, LOp.args, Nat.reduceBEq, renS, ren1, ren0, renB, only, sg, gmOf, wrN, buildCells, bsRows, Value.oneCell', setAt, eqCells, eqCell, vI, vB, vS, apartW, Nat.reduceEqDiff, Nat.reduceAdd, Nat.reduceSub, Nat.reduceMul, Nat.reduceLT, Nat.reduceLeDiff, Int.reduceEq, Int.reduceNe, Int.reduceLT, Int.reduceLE, reduceCtorEq, ↓reduceIte, ne_eq, eq_self, and_self, str_eq_iff, fold11, strR, attr_snoc, Int.toNat_natCast, attrS, attrR, aceS, aceR, metaS, metaC, hSl]
        refine vc_loop (fun k : Nat => ⟨[(14, .d (.v (.int .i64 k))), (10, .view 62 0 0 i), (12, .view 67 0 0 i), (3, .view 503 0 0 i), (4, .view 504 0 0 i)], [(503, ⟨0, .arr 2 (rM attrR A)⟩), (504, ⟨0, .arr 2 (rM attrR A.reverse)⟩), (62, ⟨0, .arr 2 (rM attrR T)⟩), (67, ⟨0, .arr 2 (rM attrR T)⟩)]⟩)
          (fun k => k ≤ i) (fun k => i - k) 0 (by omega) (LE.refl _ _) ?_
        rintro k g4
        have e4 : IntKind.i64.wrap ((k : Int) + 1) = ((k + 1 : Nat) : Int) := by rw [i64_in _ (by omega)]; omega
        by_cases hk : k < i
        · have e5 : ((k : Int) < (i : Int)) = True := eq_true (by omega)
          have hk2 : k < T.length := by omega
          cases k with
          | zero =>
            simp -implicitDefEqProofs only [RL0, RL1, RL2, RL3, RL4, RL5, RL6, RL7, RL8, chkW, ↓get_cons', ↓hget_cons', ↓hset_cons', St.gh, isNil, evalA, opTs, LOp.args, Nat.reduceBEq, renS, ren1, ren0, renB, only, sg, gmOf, wrN, buildCells, bsRows, Value.oneCell', setAt, eqCells, eqCell, vI, vB, vS, apartW, Nat.reduceEqDiff, Nat.reduceAdd, Nat.reduceSub, Nat.reduceMul, Nat.reduceLT, Nat.reduceLeDiff, Int.reduceEq, Int.reduceNe, Int.reduceLT, Int.reduceLE, reduceCtorEq, ↓reduceIte, ne_eq, eq_self, and_self, str_eq_iff, fold11, strR, attr_snoc, Int.toNat_natCast, attrS, attrR, aceS, aceR, metaS, metaC, e5, e4]
            refine ⟨by omega, by omega, by omega, by omega, fun h => absurd h (by omega), fun _ => ⟨1, by omega, by omega, LE.refl _ _⟩⟩
          | succ k =>
            have e6 : IntKind.i64.wrap (((k + 1 : Nat) : Int) - 1) = (k : Int) := by rw [i64_in _ (by omega)]; omega
            have hlt : sLt (T.getD k default).1 (T.getD (k + 1) default).1 = true := (hSo (k + 1) (by omega)).2 (by omega)
            have hno : ¬ (sLt (T.getD (k + 1) default).1 (T.getD k default).1 = true ∨ (T.getD (k + 1) default).1 = (T.getD k default).1) := by
              rintro (h | h)
              · rw [sLt_asymm hlt] at h; cases h
              · rw [h, sLt_irr] at hlt; cases hlt
            simp -implicitDefEqProofs only [RL0, RL1, RL2, RL3, RL4, RL5, RL6, RL7, RL8, chkW, ↓get_cons', ↓hget_cons', ↓hset_cons', St.gh, isNil, evalA, opTs, LOp.args, Nat.reduceBEq, renS, ren1, ren0, renB, only, sg, gmOf, wrN, buildCells, bsRows, Value.oneCell', setAt, eqCells, eqCell, vI, vB, vS, apartW, Nat.reduceEqDiff, Nat.reduceAdd, Nat.reduceSub, Nat.reduceMul, Nat.reduceLT, Nat.reduceLeDiff, Int.reduceEq, Int.reduceNe, Int.reduceLT, Int.reduceLE, reduceCtorEq, ↓reduceIte, ne_eq, eq_self, and_self, str_eq_iff, fold11, strR, attr_snoc, Int.toNat_natCast, attrS, attrR, aceS, aceR, metaS, metaC, e5, e4, e6]
            refine ⟨by omega, by omega, by omega, by omega, fun h => ⟨by omega, by omega, by omega, by omega, by omega, fun h1 => absurd h1 hno, fun _ => ⟨k + 1 + 1, by omega, by omega, LE.refl _ _⟩⟩, fun _ => ⟨k + 1 + 1, by omega, by omega, LE.refl _ _⟩⟩
        · have hk' : k = i := by omega
          subst hk'
          have e5 : ((k : Int) < (k : Int)) = False := eq_false (by omega)
          have f3 : List.take k T = T := List.take_of_length_le (by omega)
          have f5 : k ≤ T.length := by omega
          have r0 : rM aceR [] = [] := rfl
          simp -implicitDefEqProofs only [RL0, RL1, RL2, RL3, RL4, RL5, RL6, RL7, RL8, chkW, ↓get_cons', ↓hget_cons', ↓hset_cons', St.gh, isNil, evalA, opTs, LOp.args, Nat.reduceBEq, renS, ren1, ren0, renB, only, sg, gmOf, wrN, buildCells, bsRows, Value.oneCell', setAt, eqCells, eqCell, vI, vB, vS, apartW, Nat.reduceEqDiff, Nat.reduceAdd, Nat.reduceSub, Nat.reduceMul, Nat.reduceLT, Nat.reduceLeDiff, Int.reduceEq, Int.reduceNe, Int.reduceLT, Int.reduceLE, reduceCtorEq, ↓reduceIte, ne_eq, eq_self, and_self, str_eq_iff, fold11, strR, attr_snoc, Int.toNat_natCast, attrS, attrR, aceS, aceR, metaS, metaC, e5, e4]
          refine callL_of (told_spec20) [] false [] [] ?_ ?_
          · refine CallOk.of ?_ ?_ rfl ?_ rfl rfl rfl rfl ?_ rfl ?_ rfl
            all_goals simp [ML, args1, arg1, args0, lents1, lent1, lent0, lents0, lentB, rowsM, body0, only, sg, injB, apartB, keysOf, cur, resS, ↓get_cons', ↓hget_cons', Value.oneCell', eq_self, and_self, ne_eq, vI, rK_nil, rK_len, rK_take, rM_len, rM_take, fold11, strR, attr_snoc, Int.toNat_natCast, attrS, attrR, aceS, aceR, metaS, metaC]
          simp -implicitDefEqProofs only [RL0, RL1, RL2, RL3, RL4, RL5, RL6, RL7, RL8, chkW, ↓get_cons', ↓hget_cons', ↓hset_cons', St.gh, isNil, evalA, opTs, LOp.args, Nat.reduceBEq, renS, ren1, ren0, renB, only, sg, gmOf, wrN, buildCells, bsRows, Value.oneCell', setAt, eqCells, eqCell, vI, vB, vS, apartW, Nat.reduceEqDiff, Nat.reduceAdd, Nat.reduceSub, Nat.reduceMul, Nat.reduceLT, Nat.reduceLeDiff, Int.reduceEq, Int.reduceNe, Int.reduceLT, Int.reduceLE, reduceCtorEq, ↓reduceIte, ne_eq, eq_self, and_self, str_eq_iff, fold11, strR, attr_snoc, Int.toNat_natCast, attrS, attrR, aceS, aceR, metaS, metaC]
          refine callL_of (b1) [] true [62] [] ?_ ?_
          · refine CallOk.of ?_ ?_ rfl ?_ rfl rfl rfl rfl ?_ rfl ?_ rfl
            all_goals simp [ML, args1, arg1, args0, lents1, lent1, lent0, lents0, lentB, rowsM, body0, only, sg, injB, apartB, keysOf, cur, resS, ↓get_cons', ↓hget_cons', Value.oneCell', eq_self, and_self, ne_eq, vI, rK_nil, rK_len, rK_take, rM_len, rM_take, fold11, strR, attr_snoc, Int.toNat_natCast, attrS, attrR, aceS, aceR, metaS, metaC, S.flat2, S.flat1, S.flat, Body.flat, rM_flat, r0, f3, f5]
          simp -implicitDefEqProofs only [RL0, RL1, RL2, RL3, RL4, RL5, RL6, RL7, RL8, chkW, ↓get_cons', ↓hget_cons', ↓hset_cons', St.gh, isNil, evalA, opTs, LOp.args, Nat.reduceBEq, renS, ren1, ren0, renB, only, sg, gmOf, wrN, buildCells, bsRows, Value.oneCell', setAt, eqCells, eqCell, vI, vB, vS, apartW, Nat.reduceEqDiff, Nat.reduceAdd, Nat.reduceSub, Nat.reduceMul, Nat.reduceLT, Nat.reduceLeDiff, Int.reduceEq, Int.reduceNe, Int.reduceLT, Int.reduceLE, reduceCtorEq, ↓reduceIte, ne_eq, eq_self, and_self, str_eq_iff, fold11, strR, attr_snoc, Int.toNat_natCast, attrS, attrR, aceS, aceR, metaS, metaC]
          refine ⟨fun h1 => ?_, fun h1 => ?_⟩
          · cases B2 with
            | true =>
              cases B3 with
              | true => exact absurd (hb rfl rfl) (by omega)
              | false =>
                refine callL_of (b2) [] true [503] [] ?_ ?_
                · refine CallOk.of ?_ ?_ rfl ?_ rfl rfl rfl rfl ?_ rfl ?_ rfl
                  all_goals simp [ML, args1, arg1, args0, lents1, lent1, lent0, lents0, lentB, rowsM, body0, only, sg, injB, apartB, keysOf, cur, resS, ↓get_cons', ↓hget_cons', Value.oneCell', eq_self, and_self, ne_eq, vI, rK_nil, rK_len, rK_take, rM_len, rM_take, fold11, strR, attr_snoc, Int.toNat_natCast, attrS, attrR, aceS, aceR, metaS, metaC, bq, Bool.not_true, Bool.not_false, S.flat2, S.flat1, S.flat, Body.flat, rM_flat, r0, f1, f0]
                simp -implicitDefEqProofs only [RL0, RL1, RL2, RL3, RL4, RL5, RL6, RL7, RL8, chkW, ↓get_cons', ↓hget_cons', ↓hset_cons', St.gh, isNil, evalA, opTs, LOp.args, Nat.reduceBEq, renS, ren1, ren0, renB, only, sg, gmOf, wrN, buildCells, bsRows, Value.oneCell', setAt, eqCells, eqCell, vI, vB, vS, apartW, Nat.reduceEqDiff, Nat.reduceAdd, Nat.reduceSub, Nat.reduceMul, Nat.reduceLT, Nat.reduceLeDiff, Int.reduceEq, Int.reduceNe, Int.reduceLT, Int.reduceLE, reduceCtorEq, ↓reduceIte, ne_eq, eq_self, and_self, str_eq_iff, fold11, strR, attr_snoc, Int.toNat_natCast, attrS, attrR, aceS, aceR, metaS, metaC, bq, Bool.not_true, Bool.not_false]
                refine callL_of (b3) [] true [504] [] ?_ ?_
                · refine CallOk.of ?_ ?_ rfl ?_ rfl rfl rfl rfl ?_ rfl ?_ rfl
                  all_goals simp [ML, args1, arg1, args0, lents1, lent1, lent0, lents0, lentB, rowsM, body0, only, sg, injB, apartB, keysOf, cur, resS, ↓get_cons', ↓hget_cons', Value.oneCell', eq_self, and_self, ne_eq, vI, rK_nil, rK_len, rK_take, rM_len, rM_take, fold11, strR, attr_snoc, Int.toNat_natCast, attrS, attrR, aceS, aceR, metaS, metaC, bq, Bool.not_true, Bool.not_false, S.flat2, S.flat1, S.flat, Body.flat, rM_flat, r0, f2, f0]
                simp -implicitDefEqProofs only [RL0, RL1, RL2, RL3, RL4, RL5, RL6, RL7, RL8, chkW, ↓get_cons', ↓hget_cons', ↓hset_cons', St.gh, isNil, evalA, opTs, LOp.args, Nat.reduceBEq, renS, ren1, ren0, renB, only, sg, gmOf, wrN, buildCells, bsRows, Value.oneCell', setAt, eqCells, eqCell, vI, vB, vS, apartW, Nat.reduceEqDiff, Nat.reduceAdd, Nat.reduceSub, Nat.reduceMul, Nat.reduceLT, Nat.reduceLeDiff, Int.reduceEq, Int.reduceNe, Int.reduceLT, Int.reduceLE, reduceCtorEq, ↓reduceIte, ne_eq, eq_self, and_self, str_eq_iff, fold11, strR, attr_snoc, Int.toNat_natCast, attrS, attrR, aceS, aceR, metaS, metaC, bq, Bool.not_true, Bool.not_false]
                refine RetOk.of [] [] ?_ ?_ rfl ?_ rfl rfl ?_
                all_goals simp [ML, args1, arg1, args0, lents1, lent1, lent0, lents0, lentB, rowsM, body0, only, sg, injB, apartB, keysOf, cur, resS, ↓get_cons', ↓hget_cons', Value.oneCell', eq_self, and_self, ne_eq, vI, rK_nil, fold11, strR, attr_snoc, Int.toNat_natCast, attrS, attrR, aceS, aceR, metaS, metaC]
            | false =>
              refine callL_of (b2) [] true [503] [] ?_ ?_
              · refine CallOk.of ?_ ?_ rfl ?_ rfl rfl rfl rfl ?_ rfl ?_ rfl
                all_goals simp [ML, args1, arg1, args0, lents1, lent1, lent0, lents0, lentB, rowsM, body0, only, sg, injB, apartB, keysOf, cur, resS, ↓get_cons', ↓hget_cons', Value.oneCell', eq_self, and_self, ne_eq, vI, rK_nil, rK_len, rK_take, rM_len, rM_take, fold11, strR, attr_snoc, Int.toNat_natCast, attrS, attrR, aceS, aceR, metaS, metaC, bq, Bool.not_true, Bool.not_false, S.flat2, S.flat1, S.flat, Body.flat, rM_flat, r0, f1, f0]
              simp -implicitDefEqProofs only [RL0, RL1, RL2, RL3, RL4, RL5, RL6, RL7, RL8, chkW, ↓get_cons', ↓hget_cons', ↓hset_cons', St.gh, isNil, evalA, opTs, LOp.args, Nat.reduceBEq, renS, ren1, ren0, renB, only, sg, gmOf, wrN, buildCells, bsRows, Value.oneCell', setAt, eqCells, eqCell, vI, vB, vS, apartW, Nat.reduceEqDiff, Nat.reduceAdd, Nat.reduceSub, Nat.reduceMul, Nat.reduceLT, Nat.reduceLeDiff, Int.reduceEq, Int.reduceNe, Int.reduceLT, Int.reduceLE, reduceCtorEq, ↓reduceIte, ne_eq, eq_self, and_self, str_eq_iff, fold11, strR, attr_snoc, Int.toNat_natCast, attrS, attrR, aceS, aceR, metaS, metaC, bq, Bool.not_true, Bool.not_false]
              cases B3 with
              | true =>
                refine callL_of (b3) [] true [504] [] ?_ ?_
                · refine CallOk.of ?_ ?_ rfl ?_ rfl rfl rfl rfl ?_ rfl ?_ rfl
                  all_goals simp [ML, args1, arg1, args0, lents1, lent1, lent0, lents0, lentB, rowsM, body0, only, sg, injB, apartB, keysOf, cur, resS, ↓get_cons', ↓hget_cons', Value.oneCell', eq_self, and_self, ne_eq, vI, rK_nil, rK_len, rK_take, rM_len, rM_take, fold11, strR, attr_snoc, Int.toNat_natCast, attrS, attrR, aceS, aceR, metaS, metaC, bq, Bool.not_true, Bool.not_false, S.flat2, S.flat1, S.flat, Body.flat, rM_flat, r0, f2, f0]
                simp -implicitDefEqProofs only [RL0, RL1, RL2, RL3, RL4, RL5, RL6, RL7, RL8, chkW, ↓get_cons', ↓hget_cons', ↓hset_cons', St.gh, isNil, evalA, opTs, LOp.args, Nat.reduceBEq, renS, ren1, ren0, renB, only, sg, gmOf, wrN, buildCells, bsRows, Value.oneCell', setAt, eqCells, eqCell, vI, vB, vS, apartW, Nat.reduceEqDiff, Nat.reduceAdd, Nat.reduceSub, Nat.reduceMul, Nat.reduceLT, Nat.reduceLeDiff, Int.reduceEq, Int.reduceNe, Int.reduceLT, Int.reduceLE, reduceCtorEq, ↓reduceIte, ne_eq, eq_self, and_self, str_eq_iff, fold11, strR, attr_snoc, Int.toNat_natCast, attrS, attrR, aceS, aceR, metaS, metaC, bq, Bool.not_true, Bool.not_false]
                refine RetOk.of [] [] ?_ ?_ rfl ?_ rfl rfl ?_
                all_goals simp [ML, args1, arg1, args0, lents1, lent1, lent0, lents0, lentB, rowsM, body0, only, sg, injB, apartB, keysOf, cur, resS, ↓get_cons', ↓hget_cons', Value.oneCell', eq_self, and_self, ne_eq, vI, rK_nil, fold11, strR, attr_snoc, Int.toNat_natCast, attrS, attrR, aceS, aceR, metaS, metaC]
              | false =>
                refine callL_of (b3) [] true [504] [] ?_ ?_
                · refine CallOk.of ?_ ?_ rfl ?_ rfl rfl rfl rfl ?_ rfl ?_ rfl
                  all_goals simp [ML, args1, arg1, args0, lents1, lent1, lent0, lents0, lentB, rowsM, body0, only, sg, injB, apartB, keysOf, cur, resS, ↓get_cons', ↓hget_cons', Value.oneCell', eq_self, and_self, ne_eq, vI, rK_nil, rK_len, rK_take, rM_len, rM_take, fold11, strR, attr_snoc, Int.toNat_natCast, attrS, attrR, aceS, aceR, metaS, metaC, bq, Bool.not_true, Bool.not_false, S.flat2, S.flat1, S.flat, Body.flat, rM_flat, r0, f2, f0]
                simp -implicitDefEqProofs only [RL0, RL1, RL2, RL3, RL4, RL5, RL6, RL7, RL8, chkW, ↓get_cons', ↓hget_cons', ↓hset_cons', St.gh, isNil, evalA, opTs, LOp.args, Nat.reduceBEq, renS, ren1, ren0, renB, only, sg, gmOf, wrN, buildCells, bsRows, Value.oneCell', setAt, eqCells, eqCell, vI, vB, vS, apartW, Nat.reduceEqDiff, Nat.reduceAdd, Nat.reduceSub, Nat.reduceMul, Nat.reduceLT, Nat.reduceLeDiff, Int.reduceEq, Int.reduceNe, Int.reduceLT, Int.reduceLE, reduceCtorEq, ↓reduceIte, ne_eq, eq_self, and_self, str_eq_iff, fold11, strR, attr_snoc, Int.toNat_natCast, attrS, attrR, aceS, aceR, metaS, metaC, bq, Bool.not_true, Bool.not_false]
                refine callL_of (b2) [] true [503] [] ?_ ?_
                · refine CallOk.of ?_ ?_ rfl ?_ rfl rfl rfl rfl ?_ rfl ?_ rfl
                  all_goals simp [ML, args1, arg1, args0, lents1, lent1, lent0, lents0, lentB, rowsM, body0, only, sg, injB, apartB, keysOf, cur, resS, ↓get_cons', ↓hget_cons', Value.oneCell', eq_self, and_self, ne_eq, vI, rK_nil, rK_len, rK_take, rM_len, rM_take, fold11, strR, attr_snoc, Int.toNat_natCast, attrS, attrR, aceS, aceR, metaS, metaC, bq, Bool.not_true, Bool.not_false, S.flat2, S.flat1, S.flat, Body.flat, rM_flat, r0, f1, f0]
                simp -implicitDefEqProofs only [RL0, RL1, RL2, RL3, RL4, RL5, RL6, RL7, RL8, chkW, ↓get_cons', ↓hget_cons', ↓hset_cons', St.gh, isNil, evalA, opTs, LOp.args, Nat.reduceBEq, renS, ren1, ren0, renB, only, sg, gmOf, wrN, buildCells, bsRows, Value.oneCell', setAt, eqCells, eqCell, vI, vB, vS, apartW, Nat.reduceEqDiff, Nat.reduceAdd, Nat.reduceSub, Nat.reduceMul, Nat.reduceLT, Nat.reduceLeDiff, Int.reduceEq, Int.reduceNe, Int.reduceLT, Int.reduceLE, reduceCtorEq, ↓reduceIte, ne_eq, eq_self, and_self, str_eq_iff, fold11, strR, attr_snoc, Int.toNat_natCast, attrS, attrR, aceS, aceR, metaS, metaC, bq, Bool.not_true, Bool.not_false]
                refine RetOk.of [] [] ?_ ?_ rfl ?_ rfl rfl ?_
                all_goals simp [ML, args1, arg1, args0, lents1, lent1, lent0, lents0, lentB, rowsM, body0, only, sg, injB, apartB, keysOf, cur, resS, ↓get_cons', ↓hget_cons', Value.oneCell', eq_self, and_self, ne_eq, vI, rK_nil, fold11, strR, attr_snoc, Int.toNat_natCast, attrS, attrR, aceS, aceR, metaS, metaC]
          · refine RetOk.of [] [] ?_ ?_ rfl ?_ rfl rfl ?_
            all_goals simp [ML, args1, arg1, args0, lents1, lent1, lent0, lents0, lentB, rowsM, body0, only, sg, injB, apartB, keysOf, cur, resS, ↓get_cons', ↓hget_cons', Value.oneCell', eq_self, and_self, ne_eq, vI, rK_nil, fold11, strR, attr_snoc, Int.toNat_natCast, attrS, attrR, aceS, aceR, metaS, metaC]
      · have e1 : ((i : Int) < (l.length : Int)) = False := eq_false (by omega)
        simp -implicitDefEqProofs only [RL0, RL1, RL2, RL3, RL4, RL5, RL6, RL7, RL8, chkW, ↓get_cons', ↓hget_cons', ↓hset_cons', St.gh, isNil, evalA, opTs, LOp.args, Nat.reduceBEq, renS, ren1, ren0, renB, only, sg, gmOf, wrN, buildCells, bsRows, Value.oneCell', setAt, eqCells, eqCell, vI, vB, vS, apartW, Nat.reduceEqDiff, Nat.reduceAdd, Nat.reduceSub, Nat.reduceMul, Nat.reduceLT, Nat.reduceLeDiff, Int.reduceEq, Int.reduceNe, Int.reduceLT, Int.reduceLE, reduceCtorEq, ↓reduceIte, ne_eq, eq_self, and_self, str_eq_iff, fold11, strR, attr_snoc, Int.toNat_natCast, attrS, attrR, aceS, aceR, metaS, metaC, e1]
        refine callL_of (a1) [(1000, 62)] true [503] [] ?_ ?_
        · refine CallOk.of ?_ ?_ rfl ?_ rfl rfl rfl rfl ?_ rfl ?_ rfl
          all_goals simp [ML, args1, arg1, args0, lents1, lent1, lent0, lents0, lentB, rowsM, body0, only, sg, injB, apartB, keysOf, cur, resS, ↓get_cons', ↓hget_cons', Value.oneCell', eq_self, and_self, ne_eq, vI, rK_nil, rK_len, rK_take, rM_len, rM_take, fold11, strR, attr_snoc, Int.toNat_natCast, attrS, attrR, aceS, aceR, metaS, metaC, S.flat2, S.flat1, S.flat, Body.flat, rM_flat, rA_flat, f1, hSl, f0]
        simp -implicitDefEqProofs only [RL0, RL1, RL2, RL3, RL4, RL5, RL6, RL7, RL8, chkW, ↓get_cons', ↓hget_cons', ↓hset_cons', St.gh, isNil, evalA, opTs, LOp.args, Nat.reduceBEq, renS, ren1, ren0, renB, only, sg, gmOf, wrN, buildCells, bsRows, Value.oneCell', setAt, eqCells, eqCell, vI, vB, vS, apartW, Nat.reduceEqDiff, Nat.reduceAdd, Nat.reduceSub, Nat.reduceMul, Nat.reduceLT, Nat.reduceLeDiff, Int.reduceEq, Int.reduceNe, Int.reduceLT, Int.reduceLE, reduceCtorEq, ↓reduceIte, ne_eq, eq_self, and_self, str_eq_iff, fold11, strR, attr_snoc, Int.toNat_natCast, attrS, attrR, aceS, aceR, metaS, metaC]
        refine callL_of (a2) [(1000, 67)] true [504] [] ?_ ?_
        · refine CallOk.of ?_ ?_ rfl ?_ rfl rfl rfl rfl ?_ rfl ?_ rfl
          all_goals simp [ML, args1, arg1, args0, lents1, lent1, lent0, lents0, lentB, rowsM, body0, only, sg, injB, apartB, keysOf, cur, resS, ↓get_cons', ↓hget_cons', Value.oneCell', eq_self, and_self, ne_eq, vI, rK_nil, rK_len, rK_take, rM_len, rM_take, fold11, strR, attr_snoc, Int.toNat_natCast, attrS, attrR, aceS, aceR, metaS, metaC, hSl, S.flat2, S.flat1, S.flat, Body.flat, rM_flat, rA_flat, f2, hSl, f0]
        simp -implicitDefEqProofs only [RL0, RL1, RL2, RL3, RL4, RL5, RL6, RL7, RL8, chkW, ↓get_cons', ↓hget_cons', ↓hset_cons', St.gh, isNil, evalA, opTs, LOp.args, Nat.reduceBEq, renS, ren1, ren0, renB, only, sg, gmOf, wrN, buildCells, bsRows, Value.oneCell', setAt, eqCells, eqCell, vI, vB, vS, apartW, Nat.reduceEqDiff, Nat.reduceAdd, Nat.reduceSub, Nat.reduceMul, Nat.reduceLT, Nat.reduceLeDiff, Int.reduceEq, Int.reduceNe, Int.reduceLT, Int.reduceLE, reduceCtorEq, ↓reduceIte, ne_eq, eq_self, and_self, str_eq_iff, fold11, strR, attr_snoc, Int.toNat_natCast, attrS, attrR, aceS, aceR, metaS, metaC, hSl]
        refine vc_loop (fun k : Nat => ⟨[(14, .d (.v (.int .i64 k))), (10, .view 62 0 0 i), (12, .view 67 0 0 i), (3, .view 503 0 0 i), (4, .view 504 0 0 i)], [(503, ⟨0, .arr 2 (rM attrR A)⟩), (504, ⟨0, .arr 2 (rM attrR A.reverse)⟩), (62, ⟨0, .arr 2 (rM attrR T)⟩), (67, ⟨0, .arr 2 (rM attrR T)⟩)]⟩)
          (fun k => k ≤ i) (fun k => i - k) 0 (by omega) (LE.refl _ _) ?_
        rintro k g4
        have e4 : IntKind.i64.wrap ((k : Int) + 1) = ((k + 1 : Nat) : Int) := by rw [i64_in _ (by omega)]; omega
        by_cases hk : k < i
        · have e5 : ((k : Int) < (i : Int)) = True := eq_true (by omega)
          have hk2 : k < T.length := by omega
          cases k with
          | zero =>
            simp -implicitDefEqProofs only [RL0, RL1, RL2, RL3, RL4, RL5, RL6, RL7, RL8, chkW, ↓get_cons', ↓hget_cons', ↓hset_cons', St.gh, isNil, evalA, opTs, LOp.args, Nat.reduceBEq, renS, ren1, ren0, renB, only, sg, gmOf, wrN, buildCells, bsRows, Value.oneCell', setAt, eqCells, eqCell, vI, vB, vS, apartW, Nat.reduceEqDiff, Nat.reduceAdd, Nat.reduceSub, Nat.reduceMul, Nat.reduceLT, Nat.reduceLeDiff, Int.reduceEq, Int.reduceNe, Int.reduceLT, Int.reduceLE, reduceCtorEq, ↓reduceIte, ne_eq, eq_self, and_self, str_eq_iff, fold11, strR, attr_snoc, Int.toNat_natCast, attrS, attrR, aceS, aceR, metaS, metaC, e5, e4]
            refine ⟨by omega, by omega, by omega, by omega, fun h => absurd h (by omega), fun _ => ⟨1, by omega, by omega, LE.refl _ _⟩⟩
          | succ k =>
            have e6 : IntKind.i64.wrap (((k + 1 : Nat) : Int) - 1) = (k : Int) := by rw [i64_in _ (by omega)]; omega
            have hlt : sLt (T.getD k default).1 (T.getD (k + 1) default).1 = true := (hSo (k + 1) (by omega)).2 (by omega)
            have hno : ¬ (sLt (T.getD (k + 1) default).1 (T.getD k default).1 = true ∨ (T.getD (k + 1) default).1 = (T.getD k default).1) := by
              rintro (h | h)
              · rw [sLt_asymm hlt] at h; cases h
              · rw [h, sLt_irr] at hlt; cases hlt
            simp -implicitDefEqProofs only [RL0, RL1, RL2, RL3, RL4, RL5, RL6, RL7, RL8, chkW, ↓get_cons', ↓hget_cons', ↓hset_cons', St.gh, isNil, evalA, opTs, LOp.args, Nat.reduceBEq, renS, ren1, ren0, renB, only, sg, gmOf, wrN, buildCells, bsRows, Value.oneCell', setAt, eqCells, eqCell, vI, vB, vS, apartW, Nat.reduceEqDiff, Nat.reduceAdd, Nat.reduceSub, Nat.reduceMul, Nat.reduceLT, Nat.reduceLeDiff, Int.reduceEq, Int.reduceNe, Int.reduceLT, Int.reduceLE, reduceCtorEq, ↓reduceIte, ne_eq, eq_self, and_self, str_eq_iff, fold11, strR, attr_snoc, Int.toNat_natCast, attrS, attrR, aceS, aceR, metaS, metaC, e5, e4, e6]
            refine ⟨by omega, by omega, by omega, by omega, fun h => ⟨by omega, by omega, by omega, by omega, by omega, fun h1 => absurd h1 hno, fun _ => ⟨k + 1 + 1, by omega, by omega, LE.refl _ _⟩⟩, fun _ => ⟨k + 1 + 1, by omega, by omega, LE.refl _ _⟩⟩
        · have hk' : k = i := by omega
          subst hk'
          have e5 : ((k : Int) < (k : Int)) = False := eq_false (by omega)
          have f3 : List.take k T = T := List.take_of_length_le (by omega)
          have f5 : k ≤ T.length := by omega
          have r0 : rM aceR [] = [] := rfl
          simp -implicitDefEqProofs only [RL0, RL1, RL2, RL3, RL4, RL5, RL6, RL7, RL8, chkW, ↓get_cons', ↓hget_cons', ↓hset_cons', St.gh, isNil, evalA, opTs, LOp.args, Nat.reduceBEq, renS, ren1, ren0, renB, only, sg, gmOf, wrN, buildCells, bsRows, Value.oneCell', setAt, eqCells, eqCell, vI, vB, vS, apartW, Nat.reduceEqDiff, Nat.reduceAdd, Nat.reduceSub, Nat.reduceMul, Nat.reduceLT, Nat.reduceLeDiff, Int.reduceEq, Int.reduceNe, Int.reduceLT, Int.reduceLE, reduceCtorEq, ↓reduceIte, ne_eq, eq_self, and_self, str_eq_iff, fold11, strR, attr_snoc, Int.toNat_natCast, attrS, attrR, aceS, aceR, metaS, metaC, e5, e4]
          refine callL_of (told_spec20) [] false [] [] ?_ ?_
          · refine CallOk.of ?_ ?_ rfl ?_ rfl rfl rfl rfl ?_ rfl ?_ rfl
            all_goals simp [ML, args1, arg1, args0, lents1, lent1, lent0, lents0, lentB, rowsM, body0, only, sg, injB, apartB, keysOf, cur, resS, ↓get_cons', ↓hget_cons', Value.oneCell', eq_self, and_self, ne_eq, vI, rK_nil, rK_len, rK_take, rM_len, rM_take, fold11, strR, attr_snoc, Int.toNat_natCast, attrS, attrR, aceS, aceR, metaS, metaC]
          simp -implicitDefEqProofs only [RL0, RL1, RL2, RL3, RL4, RL5, RL6, RL7, RL8, chkW, ↓get_cons', ↓hget_cons', ↓hset_cons', St.gh, isNil, evalA, opTs, LOp.args, Nat.reduceBEq, renS, ren1, ren0, renB, only, sg, gmOf, wrN, buildCells, bsRows, Value.oneCell', setAt, eqCells, eqCell, vI, vB, vS, apartW, Nat.reduceEqDiff, Nat.reduceAdd, Nat.reduceSub, Nat.reduceMul, Nat.reduceLT, Nat.reduceLeDiff, Int.reduceEq, Int.reduceNe, Int.reduceLT, Int.reduceLE, reduceCtorEq, ↓reduceIte, ne_eq, eq_self, and_self, str_eq_iff, fold11, strR, attr_snoc, Int.toNat_natCast, attrS, attrR, aceS, aceR, metaS, metaC]
          refine callL_of (b1) [] true [62] [] ?_ ?_
          · refine CallOk.of ?_ ?_ rfl ?_ rfl rfl rfl rfl ?_ rfl ?_ rfl
            all_goals simp [ML, args1, arg1, args0, lents1, lent1, lent0, lents0, lentB, rowsM, body0, only, sg, injB, apartB, keysOf, cur, resS, ↓get_cons', ↓hget_cons', Value.oneCell', eq_self, and_self, ne_eq, vI, rK_nil, rK_len, rK_take, rM_len, rM_take, fold11, strR, attr_snoc, Int.toNat_natCast, attrS, attrR, aceS, aceR, metaS, metaC, S.flat2, S.flat1, S.flat, Body.flat, rM_flat, r0, f3, f5]
          simp -implicitDefEqProofs only [RL0, RL1, RL2, RL3, RL4, RL5, RL6, RL7, RL8, chkW, ↓get_cons', ↓hget_cons', ↓hset_cons', St.gh, isNil, evalA, opTs, LOp.args, Nat.reduceBEq, renS, ren1, ren0, renB, only, sg, gmOf, wrN, buildCells, bsRows, Value.oneCell', setAt, eqCells, eqCell, vI, vB, vS, apartW, Nat.reduceEqDiff, Nat.reduceAdd, Nat.reduceSub, Nat.reduceMul, Nat.reduceLT, Nat.reduceLeDiff, Int.reduceEq, Int.reduceNe, Int.reduceLT, Int.reduceLE, reduceCtorEq, ↓reduceIte, ne_eq, eq_self, and_self, str_eq_iff, fold11, strR, attr_snoc, Int.toNat_natCast, attrS, attrR, aceS, aceR, metaS, metaC]
          refine ⟨fun h1 => ?_, fun h1 => ?_⟩
          · cases B2 with
            | true =>
              cases B3 with
              | true => exact absurd (hb rfl rfl) (by omega)
              | false =>
                refine callL_of (b2) [] true [503] [] ?_ ?_
                · refine CallOk.of ?_ ?_ rfl ?_ rfl rfl rfl rfl ?_ rfl ?_ rfl
                  all_goals simp [ML, args1, arg1, args0, lents1, lent1, lent0, lents0, lentB, rowsM, body0, only, sg, injB, apartB, keysOf, cur, resS, ↓get_cons', ↓hget_cons', Value.oneCell', eq_self, and_self, ne_eq, vI, rK_nil, rK_len, rK_take, rM_len, rM_take, fold11, strR, attr_snoc, Int.toNat_natCast, attrS, attrR, aceS, aceR, metaS, metaC, bq, Bool.not_true, Bool.not_false, S.flat2, S.flat1, S.flat, Body.flat, rM_flat, r0, f1, f0]
                simp -implicitDefEqProofs only [RL0, RL1, RL2, RL3, RL4, RL5, RL6, RL7, RL8, chkW, ↓get_cons', ↓hget_cons', ↓hset_cons', St.gh, isNil, evalA, opTs, LOp.args, Nat.reduceBEq, renS, ren1, ren0, renB, only, sg, gmOf, wrN, buildCells, bsRows, Value.oneCell', setAt, eqCells, eqCell, vI, vB, vS, apartW, Nat.reduceEqDiff, Nat.reduceAdd, Nat.reduceSub, Nat.reduceMul, Nat.reduceLT, Nat.reduceLeDiff, Int.reduceEq, Int.reduceNe, Int.reduceLT, Int.reduceLE, reduceCtorEq, ↓reduceIte, ne_eq, eq_self, and_self, str_eq_iff, fold11, strR, attr_snoc, Int.toNat_natCast, attrS, attrR, aceS, aceR, metaS, metaC, bq, Bool.not_true, Bool.not_false]
                refine callL_of (b3) [] true [504] [] ?_ ?_
                · refine CallOk.of ?_ ?_ rfl ?_ rfl rfl rfl rfl ?_ rfl ?_ rfl
                  all_goals simp [ML, args1, arg1, args0, lents1, lent1, lent0, lents0, lentB, rowsM, body0, only, sg, injB, apartB, keysOf, cur, resS, ↓get_cons', ↓hget_cons', Value.oneCell', eq_self, and_self, ne_eq, vI, rK_nil, rK_len, rK_take, rM_len, rM_take, fold11, strR, attr_snoc, Int.toNat_natCast, attrS, attrR, aceS, aceR, metaS, metaC, bq, Bool.not_true, Bool.not_false, S.flat2, S.flat1, S.flat, Body.flat, rM_flat, r0, f2, f0]
                simp -implicitDefEqProofs only [RL0, RL1, RL2, RL3, RL4, RL5, RL6, RL7, RL8, chkW, ↓get_cons', ↓hget_cons', ↓hset_cons', St.gh, isNil, evalA, opTs, LOp.args, Nat.reduceBEq, renS, ren1, ren0, renB, only, sg, gmOf, wrN, buildCells, bsRows, Value.oneCell', setAt, eqCells, eqCell, vI, vB, vS, apartW, Nat.reduceEqDiff, Nat.reduceAdd, Nat.reduceSub, Nat.reduceMul, Nat.reduceLT, Nat.reduceLeDiff, Int.reduceEq, Int.reduceNe, Int.reduceLT, Int.reduceLE, reduceCtorEq, ↓reduceIte, ne_eq, eq_self, and_self, str_eq_iff, fold11, strR, attr_snoc, Int.toNat_natCast, attrS, attrR, aceS, aceR, metaS, metaC, bq, Bool.not_true, Bool.not_false]
                refine RetOk.of [] [] ?_ ?_ rfl ?_ rfl rfl ?_
                all_goals simp [ML, args1, arg1, args0, lents1, lent1, lent0, lents0, lentB, rowsM, body0, only, sg, injB, apartB, keysOf, cur, resS, ↓get_cons', ↓hget_cons', Value.oneCell', eq_self, and_self, ne_eq, vI, rK_nil, fold11, strR, attr_snoc, Int.toNat_natCast, attrS, attrR, aceS, aceR, metaS, metaC]
            | false =>
              refine callL_of (b2) [] true [503] [] ?_ ?_
              · refine CallOk.of ?_ ?_ rfl ?_ rfl rfl rfl rfl ?_ rfl ?_ rfl
                all_goals simp [ML, args1, arg1, args0, lents1, lent1, lent0, lents0, lentB, rowsM, body0, only, sg, injB, apartB, keysOf, cur, resS, ↓get_cons', ↓hget_cons', Value.oneCell', eq_self, and_self, ne_eq, vI, rK_nil, rK_len, rK_take, rM_len, rM_take, fold11, strR, attr_snoc, Int.toNat_natCast, attrS, attrR, aceS, aceR, metaS, metaC, bq, Bool.not_true, Bool.not_false, S.flat2, S.flat1, S.flat, Body.flat, rM_flat, r0, f1, f0]
              simp -implicitDefEqProofs only [RL0, RL1, RL2, RL3, RL4, RL5, RL6, RL7, RL8, chkW, ↓get_cons', ↓hget_cons', ↓hset_cons', St.gh, isNil, evalA, opTs, LOp.args, Nat.reduceBEq, renS, ren1, ren0, renB, only, sg, gmOf, wrN, buildCells, bsRows, Value.oneCell', setAt, eqCells, eqCell, vI, vB, vS, apartW, Nat.reduceEqDiff, Nat.reduceAdd, Nat.reduceSub, Nat.reduceMul, Nat.reduceLT, Nat.reduceLeDiff, Int.reduceEq, Int.reduceNe, Int.reduceLT, Int.reduceLE, reduceCtorEq, ↓reduceIte, ne_eq, eq_self, and_self, str_eq_iff, fold11, strR, attr_snoc, Int.toNat_natCast, attrS, attrR, aceS, aceR, metaS, metaC, bq, Bool.not_true, Bool.not_false]
              cases B3 with
              | true =>
                refine callL_of (b3) [] true [504] [] ?_ ?_
                · refine CallOk.of ?_ ?_ rfl ?_ rfl rfl rfl rfl ?_ rfl ?_ rfl
                  all_goals simp [ML, args1, arg1, args0, lents1, lent1, lent0, lents0, lentB, rowsM, body0, only, sg, injB, apartB, keysOf, cur, resS, ↓get_cons', ↓hget_cons', Value.oneCell', eq_self, and_self, ne_eq, vI, rK_nil, rK_len, rK_take, rM_len, rM_take, fold11, strR, attr_snoc, Int.toNat_natCast, attrS, attrR, aceS, aceR, metaS, metaC, bq, Bool.not_true, Bool.not_false, S.flat2, S.flat1, S.flat, Body.flat, rM_flat, r0, f2, f0]
                simp -implicitDefEqProofs only [RL0, RL1, RL2, RL3, RL4, RL5, RL6, RL7, RL8, chkW, ↓get_cons', ↓hget_cons', ↓hset_cons', St.gh, isNil, evalA, opTs, LOp.args, Nat.reduceBEq, renS, ren1, ren0, renB, only, sg, gmOf, wrN, buildCells, bsRows, Value.oneCell', setAt, eqCells, eqCell, vI, vB, vS, apartW, Nat.reduceEqDiff, Nat.reduceAdd, Nat.reduceSub, Nat.reduceMul, Nat.reduceLT, Nat.reduceLeDiff, Int.reduceEq, Int.reduceNe, Int.reduceLT, Int.reduceLE, reduceCtorEq, ↓reduceIte, ne_eq, eq_self, and_self, str_eq_iff, fold11, strR, attr_snoc, Int.toNat_natCast, attrS, attrR, aceS, aceR, metaS, metaC, bq, Bool.not_true, Bool.not_false]
                refine RetOk.of [] [] ?_ ?_ rfl ?_ rfl rfl ?_
                all_goals simp [ML, args1, arg1, args0, lents1, lent1, lent0, lents0, lentB, rowsM, body0, only, sg, injB, apartB, keysOf, cur, resS, ↓get_cons', ↓hget_cons', Value.oneCell', eq_self, and_self, ne_eq, vI, rK_nil, fold11, strR, attr_snoc, Int.toNat_natCast, attrS, attrR, aceS, aceR, metaS, metaC]
              | false =>
                refine callL_of (b3) [] true [504] [] ?_ ?_
                · refine CallOk.of ?_ ?_ rfl ?_ rfl rfl rfl rfl ?_ rfl ?_ rfl
                  all_goals simp [ML, args1, arg1, args0, lents1, lent1, lent0, lents0, lentB, rowsM, body0, only, sg, injB, apartB, keysOf, cur, resS, ↓get_cons', ↓hget_cons', Value.oneCell', eq_self, and_self, ne_eq, vI, rK_nil, rK_len, rK_take, rM_len, rM_take, fold11, strR, attr_snoc, Int.toNat_natCast, attrS, attrR, aceS, aceR, metaS, metaC, bq, Bool.not_true, Bool.not_false, S.flat2, S.flat1, S.flat, Body.flat, rM_flat, r0, f2, f0]
                simp -implicitDefEqProofs only [RL0, RL1, RL2, RL3, RL4, RL5, RL6, RL7, RL8, chkW, ↓get_cons', ↓hget_cons', ↓hset_cons', St.gh, isNil, evalA, opTs, LOp.args, Nat.reduceBEq, renS, ren1, ren0, renB, only, sg, gmOf, wrN, buildCells, bsRows, Value.oneCell', setAt, eqCells, eqCell, vI, vB, vS, apartW, Nat.reduceEqDiff, Nat.reduceAdd, Nat.reduceSub, Nat.reduceMul, Nat.reduceLT, Nat.reduceLeDiff, Int.reduceEq, Int.reduceNe, Int.reduceLT, Int.reduceLE, reduceCtorEq, ↓reduceIte, ne_eq, eq_self, and_self, str_eq_iff, fold11, strR, attr_snoc, Int.toNat_natCast, attrS, attrR, aceS, aceR, metaS, metaC, bq, Bool.not_true, Bool.not_false]
                refine callL_of (b2) [] true [503] [] ?_ ?_
                · refine CallOk.of ?_ ?_ rfl ?_ rfl rfl rfl rfl ?_ rfl ?_ rfl
                  all_goals simp [ML, args1, arg1, args0, lents1, lent1, lent0, lents0, lentB, rowsM, body0, only, sg, injB, apartB, keysOf, cur, resS, ↓get_cons', ↓hget_cons', Value.oneCell', eq_self, and_self, ne_eq, vI, rK_nil, rK_len, rK_take, rM_len, rM_take, fold11, strR, attr_snoc, Int.toNat_natCast, attrS, attrR, aceS, aceR, metaS, metaC, bq, Bool.not_true, Bool.not_false, S.flat2, S.flat1, S.flat, Body.flat, rM_flat, r0, f1, f0]
                simp -implicitDefEqProofs only [RL0, RL1, RL2, RL3, RL4, RL5, RL6, RL7, RL8, chkW, ↓get_cons', ↓hget_cons', ↓hset_cons', St.gh, isNil, evalA, opTs, LOp.args, Nat.reduceBEq, renS, ren1, ren0, renB, only, sg, gmOf, wrN, buildCells, bsRows, Value.oneCell', setAt, eqCells, eqCell, vI, vB, vS, apartW, Nat.reduceEqDiff, Nat.reduceAdd, Nat.reduceSub, Nat.reduceMul, Nat.reduceLT, Nat.reduceLeDiff, Int.reduceEq, Int.reduceNe, Int.reduceLT, Int.reduceLE, reduceCtorEq, ↓reduceIte, ne_eq, eq_self, and_self, str_eq_iff, fold11, strR, attr_snoc, Int.toNat_natCast, attrS, attrR, aceS, aceR, metaS, metaC, bq, Bool.not_true, Bool.not_false]
                refine RetOk.of [] [] ?_ ?_ rfl ?_ rfl rfl ?_
                all_goals simp [ML, args1, arg1, args0, lents1, lent1, lent0, lents0, lentB, rowsM, body0, only, sg, injB, apartB, keysOf, cur, resS, ↓get_cons', ↓hget_cons', Value.oneCell', eq_self, and_self, ne_eq, vI, rK_nil, fold11, strR, attr_snoc, Int.toNat_natCast, attrS, attrR, aceS, aceR, metaS, metaC]
          · refine RetOk.of [] [] ?_ ?_ rfl ?_ rfl rfl ?_
            all_goals simp [ML, args1, arg1, args0, lents1, lent1, lent0, lents0, lentB, rowsM, body0, only, sg, injB, apartB, keysOf, cur, resS, ↓get_cons', ↓hget_cons', Value.oneCell', eq_self, and_self, ne_eq, vI, rK_nil, fold11, strR, attr_snoc, Int.toNat_natCast, attrS, attrR, aceS, aceR, metaS, metaC]
    · have ht : tw A = true := by simp [tw, hnm]
      have ho := norm_dup hok hnm
      have ho2 := norm_dup hokr (fun q => hnm ((namesN_perm (List.reverse_perm A)).1 q))
      rw [ho] at a1
      rw [ho2] at a2
      have f0 : i ≤ A.length := by omega
      have f1 : List.take i A = A := List.take_of_length_le (by omega)
      have f2 : List.take i A.reverse = A.reverse := List.take_of_length_le (by omega)
      have r0 : rM attrR [] = [] := rfl
      rw [ht]
      rcases Nat.lt_or_ge i l.length with hq | hq
      · have e1 : ((i : Int) < (l.length : Int)) = True := eq_true (by omega)
        have e2 : ((i : Int) < 8) = False := eq_false (by omega)
        simp -implicitDefEqProofs only [RL0, RL1, RL2, RL3, RL4, RL5, RL6, RL7, RL8, chkW, ↓get_cons', ↓hget_cons', ↓hset_cons', St.gh, isNil, evalA, opTs, LOp.args, Nat.reduceBEq, renS, ren1, ren0, renB, only, sg, gmOf, wrN, buildCells, bsRows, Value.oneCell', setAt, eqCells, eqCell, vI, vB, vS, apartW, Nat.reduceEqDiff, Nat.reduceAdd, Nat.reduceSub, Nat.reduceMul, Nat.reduceLT, Nat.reduceLeDiff, Int.reduceEq, Int.reduceNe, Int.reduceLT, Int.reduceLE, reduceCtorEq, ↓reduceIte, ne_eq, eq_self, and_self, str_eq_iff, fold11, strR, attr_snoc, Int.toNat_natCast, attrS, attrR, aceS, aceR, metaS, metaC, e1, e2]
        refine callL_of (a1) [(1000, 62)] true [503] [] ?_ ?_
        · refine CallOk.of ?_ ?_ rfl ?_ rfl rfl rfl rfl ?_ rfl ?_ rfl
          all_goals simp [ML, args1, arg1, args0, lents1, lent1, lent0, lents0, lentB, rowsM, body0, only, sg, injB, apartB, keysOf, cur, resS, ↓get_cons', ↓hget_cons', Value.oneCell', eq_self, and_self, ne_eq, vI, rK_nil, rK_len, rK_take, rM_len, rM_take, fold11, strR, attr_snoc, Int.toNat_natCast, attrS, attrR, aceS, aceR, metaS, metaC, r0, S.flat2, S.flat1, S.flat, Body.flat, rM_flat, f1, f0]
        simp -implicitDefEqProofs only [RL0, RL1, RL2, RL3, RL4, RL5, RL6, RL7, RL8, chkW, ↓get_cons', ↓hget_cons', ↓hset_cons', St.gh, isNil, evalA, opTs, LOp.args, Nat.reduceBEq, renS, ren1, ren0, renB, only, sg, gmOf, wrN, buildCells, bsRows, Value.oneCell', setAt, eqCells, eqCell, vI, vB, vS, apartW, Nat.reduceEqDiff, Nat.reduceAdd, Nat.reduceSub, Nat.reduceMul, Nat.reduceLT, Nat.reduceLeDiff, Int.reduceEq, Int.reduceNe, Int.reduceLT, Int.reduceLE, reduceCtorEq, ↓reduceIte, ne_eq, eq_self, and_self, str_eq_iff, fold11, strR, attr_snoc, Int.toNat_natCast, attrS, attrR, aceS, aceR, metaS, metaC, r0]
        refine callL_of (a2) [(1000, 67)] true [504] [] ?_ ?_
        · refine CallOk.of ?_ ?_ rfl ?_ rfl rfl rfl rfl ?_ rfl ?_ rfl
          all_goals simp [ML, args1, arg1, args0, lents1, lent1, lent0, lents0, lentB, rowsM, body0, only, sg, injB, apartB, keysOf, cur, resS, ↓get_cons', ↓hget_cons', Value.oneCell', eq_self, and_self, ne_eq, vI, rK_nil, rK_len, rK_take, rM_len, rM_take, fold11, strR, attr_snoc, Int.toNat_natCast, attrS, attrR, aceS, aceR, metaS, metaC, r0, S.flat2, S.flat1, S.flat, Body.flat, rM_flat, f2, f0]
        simp -implicitDefEqProofs only [RL0, RL1, RL2, RL3, RL4, RL5, RL6, RL7, RL8, chkW, ↓get_cons', ↓hget_cons', ↓hset_cons', St.gh, isNil, evalA, opTs, LOp.args, Nat.reduceBEq, renS, ren1, ren0, renB, only, sg, gmOf, wrN, buildCells, bsRows, Value.oneCell', setAt, eqCells, eqCell, vI, vB, vS, apartW, Nat.reduceEqDiff, Nat.reduceAdd, Nat.reduceSub, Nat.reduceMul, Nat.reduceLT, Nat.reduceLeDiff, Int.reduceEq, Int.reduceNe, Int.reduceLT, Int.reduceLE, reduceCtorEq, ↓reduceIte, ne_eq, eq_self, and_self, str_eq_iff, fold11, strR, attr_snoc, Int.toNat_natCast, attrS, attrR, aceS, aceR, metaS, metaC, r0]
        refine callL_of (told_spec20) [] false [] [] ?_ ?_
        · refine CallOk.of ?_ ?_ rfl ?_ rfl rfl rfl rfl ?_ rfl ?_ rfl
          all_goals simp [ML, args1, arg1, args0, lents1, lent1, lent0, lents0, lentB, rowsM, body0, only, sg, injB, apartB, keysOf, cur, resS, ↓get_cons', ↓hget_cons', Value.oneCell', eq_self, and_self, ne_eq, vI, rK_nil, rK_len, rK_take, rM_len, rM_take, fold11, strR, attr_snoc, Int.toNat_natCast, attrS, attrR, aceS, aceR, metaS, metaC, Int.natCast_zero]
        simp -implicitDefEqProofs only [RL0, RL1, RL2, RL3, RL4, RL5, RL6, RL7, RL8, chkW, ↓get_cons', ↓hget_cons', ↓hset_cons', St.gh, isNil, evalA, opTs, LOp.args, Nat.reduceBEq, renS, ren1, ren0, renB, only, sg, gmOf, wrN, buildCells, bsRows, Value.oneCell', setAt, eqCells, eqCell, vI, vB, vS, apartW, Nat.reduceEqDiff, Nat.reduceAdd, Nat.reduceSub, Nat.reduceMul, Nat.reduceLT, Nat.reduceLeDiff, Int.reduceEq, Int.reduceNe, Int.reduceLT, Int.reduceLE, reduceCtorEq, ↓reduceIte, ne_eq, eq_self, and_self, str_eq_iff, fold11, strR, attr_snoc, Int.toNat_natCast, attrS, attrR, aceS, aceR, metaS, metaC, Int.natCast_zero]
        refine RetOk.of [] [] ?_ ?_ rfl ?_ rfl rfl ?_
        all_goals simp [ML, args1, arg1, args0, lents1, lent1, lent0, lents0, lentB, rowsM, body0, only, sg, injB, apartB, keysOf, cur, resS, ↓get_cons', ↓hget_cons', Value.oneCell', eq_self, and_self, ne_eq, vI, rK_nil, fold11, strR, attr_snoc, Int.toNat_natCast, attrS, attrR, aceS, aceR, metaS, metaC]
      · have e1 : ((i : Int) < (l.length : Int)) = False := eq_false (by omega)
        simp -implicitDefEqProofs only [RL0, RL1, RL2, RL3, RL4, RL5, RL6, RL7, RL8, chkW, ↓get_cons', ↓hget_cons', ↓hset_cons', St.gh, isNil, evalA, opTs, LOp.args, Nat.reduceBEq, renS, ren1, ren0, renB, only, sg, gmOf, wrN, buildCells, bsRows, Value.oneCell', setAt, eqCells, eqCell, vI, vB, vS, apartW, Nat.reduceEqDiff, Nat.reduceAdd, Nat.reduceSub, Nat.reduceMul, Nat.reduceLT, Nat.reduceLeDiff, Int.reduceEq, Int.reduceNe, Int.reduceLT, Int.reduceLE, reduceCtorEq, ↓reduceIte, ne_eq, eq_self, and_self, str_eq_iff, fold11, strR, attr_snoc, Int.toNat_natCast, attrS, attrR, aceS, aceR, metaS, metaC, e1]
        refine callL_of (a1) [(1000, 62)] true [503] [] ?_ ?_
        · refine CallOk.of ?_ ?_ rfl ?_ rfl rfl rfl rfl ?_ rfl ?_ rfl
          all_goals simp [ML, args1, arg1, args0, lents1, lent1, lent0, lents0, lentB, rowsM, body0, only, sg, injB, apartB, keysOf, cur, resS, ↓get_cons', ↓hget_cons', Value.oneCell', eq_self, and_self, ne_eq, vI, rK_nil, rK_len, rK_take, rM_len, rM_take, fold11, strR, attr_snoc, Int.toNat_natCast, attrS, attrR, aceS, aceR, metaS, metaC, r0, S.flat2, S.flat1, S.flat, Body.flat, rM_flat, f1, f0]
        simp -implicitDefEqProofs only [RL0, RL1, RL2, RL3, RL4, RL5, RL6, RL7, RL8, chkW, ↓get_cons', ↓hget_cons', ↓hset_cons', St.gh, isNil, evalA, opTs, LOp.args, Nat.reduceBEq, renS, ren1, ren0, renB, only, sg, gmOf, wrN, buildCells, bsRows, Value.oneCell', setAt, eqCells, eqCell, vI, vB, vS, apartW, Nat.reduceEqDiff, Nat.reduceAdd, Nat.reduceSub, Nat.reduceMul, Nat.reduceLT, Nat.reduceLeDiff, Int.reduceEq, Int.reduceNe, Int.reduceLT, Int.reduceLE, reduceCtorEq, ↓reduceIte, ne_eq, eq_self, and_self, str_eq_iff, fold11, strR, attr_snoc, Int.toNat_natCast, attrS, attrR, aceS, aceR, metaS, metaC, r0]
        refine callL_of (a2) [(1000, 67)] true [504] [] ?_ ?_
        · refine CallOk.of ?_ ?_ rfl ?_ rfl rfl rfl rfl ?_ rfl ?_ rfl
          all_goals simp [ML, args1, arg1, args0, lents1, lent1, lent0, lents0, lentB, rowsM, body0, only, sg, injB, apartB, keysOf, cur, resS, ↓get_cons', ↓hget_cons', Value.oneCell', eq_self, and_self, ne_eq, vI, rK_nil, rK_len, rK_take, rM_len, rM_take, fold11, strR, attr_snoc, Int.toNat_natCast, attrS, attrR, aceS, aceR, metaS, metaC, r0, S.flat2, S.flat1, S.flat, Body.flat, rM_flat, f2, f0]
        simp -implicitDefEqProofs only [RL0, RL1, RL2, RL3, RL4, RL5, RL6, RL7, RL8, chkW, ↓get_cons', ↓hget_cons', ↓hset_cons', St.gh, isNil, evalA, opTs, LOp.args, Nat.reduceBEq, renS, ren1, ren0, renB, only, sg, gmOf, wrN, buildCells, bsRows, Value.oneCell', setAt, eqCells, eqCell, vI, vB, vS, apartW, Nat.reduceEqDiff, Nat.reduceAdd, Nat.reduceSub, Nat.reduceMul, Nat.reduceLT, Nat.reduceLeDiff, Int.reduceEq, Int.reduceNe, Int.reduceLT, Int.reduceLE, reduceCtorEq, ↓reduceIte, ne_eq, eq_self, and_self, str_eq_iff, fold11, strR, attr_snoc, Int.toNat_natCast, attrS, attrR, aceS, aceR, metaS, metaC, r0]
        refine callL_of (told_spec20) [] false [] [] ?_ ?_
        · refine CallOk.of ?_ ?_ rfl ?_ rfl rfl rfl rfl ?_ rfl ?_ rfl
          all_goals simp [ML, args1, arg1, args0, lents1, lent1, lent0, lents0, lentB, rowsM, body0, only, sg, injB, apartB, keysOf, cur, resS, ↓get_cons', ↓hget_cons', Value.oneCell', eq_self, and_self, ne_eq, vI, rK_nil, rK_len, rK_take, rM_len, rM_take, fold11, strR, attr_snoc, Int.toNat_natCast, attrS, attrR, aceS, aceR, metaS, metaC, Int.natCast_zero]
        simp -implicitDefEqProofs only [RL0, RL1, RL2, RL3, RL4, RL5, RL6, RL7, RL8, chkW, ↓get_cons', ↓hget_cons', ↓hset_cons', St.gh, isNil, evalA, opTs, LOp.args, Nat.reduceBEq, renS, ren1, ren0, renB, only, sg, gmOf, wrN, buildCells, bsRows, Value.oneCell', setAt, eqCells, eqCell, vI, vB, vS, apartW, Nat.reduceEqDiff, Nat.reduceAdd, Nat.reduceSub, Nat.reduceMul, Nat.reduceLT, Nat.reduceLeDiff, Int.reduceEq, Int.reduceNe, Int.reduceLT, Int.reduceLE, reduceCtorEq, ↓reduceIte, ne_eq, eq_self, and_self, str_eq_iff, fold11, strR, attr_snoc, Int.toNat_natCast, attrS, attrR, aceS, aceR, metaS, metaC, Int.natCast_zero]
        refine RetOk.of [] [] ?_ ?_ rfl ?_ rfl rfl ?_
        all_goals simp [ML, args1, arg1, args0, lents1, lent1, lent0, lents0, lentB, rowsM, body0, only, sg, injB, apartB, keysOf, cur, resS, ↓get_cons', ↓hget_cons', Value.oneCell', eq_self, and_self, ne_eq, vI, rK_nil, fold11, strR, attr_snoc, Int.toNat_natCast, attrS, attrR, aceS, aceR, metaS, metaC]
end Go.Proofs.Me
