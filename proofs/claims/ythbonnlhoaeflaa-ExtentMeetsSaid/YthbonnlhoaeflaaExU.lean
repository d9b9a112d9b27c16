import Derived.Test.YthbonnlhoaeflaaExS
set_option linter.unusedVariables false
set_option linter.unusedSimpArgs false
-- DEFS Int.toNat_natCast, cV, cR, c_set, List.length_set
namespace Go.Proofs.Ex
open Go.RowKit Go.Lib Go.Eng Go.Proofs Go.IntWalk
set_option maxRecDepth 100000
set_option linter.unusedVariables false
set_option linter.unusedSectionVars false
set_option maxHeartbeats 4000000
def keyZ (z : Z) : Int := z.1
theorem ltZ_eq : ltZ = ltK keyZ := by funext a b; simp [ltZ, ltK, keyZ]
section
variable {α : Type} [Inhabited α]
theorem ad_get0 (A B : List α) (u v : α) : (A ++ u :: v :: B).getD A.length default = u := by
  rw [List.getD_eq_getElem?_getD, List.getElem?_append_right (Nat.le_refl _), Nat.sub_self]; rfl
theorem ad_get1 (A B : List α) (u v : α) : (A ++ u :: v :: B).getD (A.length + 1) default = v := by
  rw [List.getD_eq_getElem?_getD, List.getElem?_append_right (by omega), Nat.add_sub_cancel_left]; rfl
theorem ad_set (A B : List α) (u v : α) : ((A ++ u :: v :: B).set A.length v).set (A.length + 1) u = A ++ v :: u :: B := by
  rw [List.set_append_right (h := Nat.le_refl _), Nat.sub_self, List.set_append_right (h := by omega), Nat.add_sub_cancel_left]; rfl
theorem ad_set' (A B : List α) (u v : α) : ((A ++ u :: v :: B).set (A.length + 1) u).set A.length v = A ++ v :: u :: B := by
  rw [List.set_append_right (h := by omega), Nat.add_sub_cancel_left, List.set_append_right (h := Nat.le_refl _), Nat.sub_self]; rfl
theorem sorted_getD {key : α → Int} {l : List α} (h : SortedK key l) {i j : Nat} (hij : i ≤ j) (hj : j < l.length) : key (l.getD i default) ≤ key (l.getD j default) := by
  rw [List.getD_eq_getElem?_getD, List.getElem?_eq_getElem (by omega), List.getD_eq_getElem?_getD, List.getElem?_eq_getElem hj]
  by_cases e : i = j
  · subst e; exact Int.le_refl _
  · exact (List.pairwise_iff_getElem.1 h) i j (by omega) hj (by omega)
theorem getD_mem {l : List α} {i : Nat} (h : i < l.length) : l.getD i default ∈ l := by
  rw [List.getD_eq_getElem?_getD, List.getElem?_eq_getElem h]
  exact List.getElem_mem ..
theorem mem_take_getD {l : List α} {n : Nat} {a : α} (h : a ∈ l.take n) : ∃ j, j < n ∧ j < l.length ∧ a = l.getD j default := by
  obtain ⟨j, hj, e⟩ := List.getElem_of_mem h
  have hj' : j < n ∧ j < l.length := by simp at hj; omega
  refine ⟨j, hj'.1, hj'.2, ?_⟩
  rw [← e, List.getElem_take, List.getD_eq_getElem?_getD, List.getElem?_eq_getElem hj'.2]; rfl
theorem mem_drop_getD {l : List α} {n : Nat} {a : α} (h : a ∈ l.drop n) : ∃ j, n ≤ j ∧ j < l.length ∧ a = l.getD j default := by
  obtain ⟨j, hj, e⟩ := List.getElem_of_mem h
  have hj' : n + j < l.length := by simp at hj; omega
  refine ⟨n + j, by omega, hj', ?_⟩
  rw [← e, List.getElem_drop, List.getD_eq_getElem?_getD, List.getElem?_eq_getElem hj']; rfl
end
theorem half_facts (i j : Nat) (h : i + j < 2 ^ 62) : IntKind.i64.wrap ((i : Int) + (j : Int)) = ((i + j : Nat) : Int) ∧ IntKind.u64.wrap ((i + j : Nat) : Int) = ((i + j : Nat) : Int) ∧
    Int.fdiv ((i + j : Nat) : Int) (2 ^ min (Int.toNat 1) IntKind.u64.bits) = (((i + j) / 2 : Nat) : Int) ∧ IntKind.i64.wrap (((i + j) / 2 : Nat) : Int) = (((i + j) / 2 : Nat) : Int) := by
  refine ⟨by rw [i64_in _ (by omega)]; omega, ?_, ?_, by rw [i64_in _ (by omega)]⟩
  · simp only [IntKind.wrap, IntKind.signed, IntKind.bits, Bool.false_and]
    simp
    omega
  · rw [show (2 ^ min (Int.toNat 1) IntKind.u64.bits : Int) = 2 by decide, Int.fdiv_eq_ediv_of_nonneg _ (by decide)]
    omega
theorem smA_spec (P : List Z) (x0 : Z) (Y S : List Z) (hY : SortedK keyZ Y) (ho : okZ x0) (hok : ∀ z ∈ Y, okZ z) (hl : (P ++ x0 :: (Y ++ S)).length ≤ 2 ^ 40) :
    Eng.Spec Try.prog 61 [1000] [(1000, ⟨0, .arr 1 (rM cR (P ++ x0 :: (Y ++ S)))⟩)]
    [.view 1000 0 0 (P ++ x0 :: (Y ++ S)).length, .d (.v (.int .i64 P.length)), .d (.v (.int .i64 (P.length + 1 : Nat))), .d (.v (.int .i64 (P.length + 1 + Y.length : Nat))), .d (.v (.func (.func 32) #[] #[]))]
    [(1000, ⟨0, .arr 1 (rM cR (P ++ sortR ltZ (x0 :: Y) ++ S))⟩)] (.tup []) := by
  obtain ⟨n, hn⟩ : ∃ n, (P ++ x0 :: (Y ++ S)).length = n := ⟨_, rfl⟩
  have hn2 : n = P.length + 1 + Y.length + S.length := by rw [← hn]; simp; omega
  have w1 : IntKind.i64.wrap (((P.length + 1 : Nat) : Int) - (P.length : Int)) = 1 := by rw [hn] at hl; rw [i64_in _ (by omega)]; omega
  rw [hn] at hl ⊢
  refine told_spec mixed f61_told f61_results f61_text rfl (by simp) rfl ?_
  simp only [initS, List.length_cons, List.length_nil, List.range, List.range.loop, List.getD_cons_zero, List.getD_cons_succ, List.cons_append, List.nil_append, Int.toNat_natCast, cV, cR, c_set, List.length_set]
  simp -implicitDefEqProofs only [RL0, RL1, RL2, RL3, RL4, RL5, RL6, RL7, RL8, RL9, chkW, ↓get_cons', ↓hget_cons', ↓hset_cons', St.gh, isNil, evalA, opTs, LOp.args, Nat.reduceBEq, renS, ren1, ren0, renB, only, sg, gmOf, wrN, buildCells, bsRows, Value.oneCell', setAt, eqCells, eqCell, vI, vB, vS, apartW, Nat.reduceEqDiff, Nat.reduceAdd, Nat.reduceSub, Nat.reduceMul, Nat.reduceLT, Nat.reduceLeDiff, Int.reduceEq, Int.reduceNe, Int.reduceLT, Int.reduceLE, reduceCtorEq, ↓reduceIte, ne_eq, eq_self, and_self, str_eq_iff]
  refine ⟨fun _ => ?_, fun q => absurd w1 q⟩
  refine vc_loop (fun x : Nat × Nat => ⟨[(1, .d (.v (.int .i64 P.length))), (0, .view 1000 0 0 n), (4, .d (.v (.func (.func 32) #[] #[]))), (11, .d (.v (.int .i64 (P.length + 1 + x.2 : Nat)))), (10, .d (.v (.int .i64 (P.length + 1 + x.1 : Nat))))], [(1000, ⟨0, .arr 1 (rM cR (P ++ x0 :: (Y ++ S)))⟩)]⟩)
    (fun x => x.1 ≤ x.2 ∧ x.2 ≤ Y.length ∧ (∀ t, t < x.1 → keyZ (Y.getD t default) < keyZ x0) ∧ (∀ t, x.2 ≤ t → t < Y.length → keyZ x0 ≤ keyZ (Y.getD t default))) (fun x => x.2 - x.1) (0, Y.length)
    ⟨by omega, by omega, by simp, by simp only; omega⟩ (LE.refl _ _) ?_
  rintro ⟨lo, hi⟩ ⟨g1, g2, g3, g4⟩
  simp only at g1 g2 g3 g4
  by_cases hlt : lo < hi
  · have e1 : (((P.length + 1 + lo : Nat) : Int) < ((P.length + 1 + hi : Nat) : Int)) = True := eq_true (by omega)
    obtain ⟨f1, f2, f3, f4⟩ := half_facts (P.length + 1 + lo) (P.length + 1 + hi) (by omega)
    obtain ⟨hh, hhh⟩ : ∃ hh, (lo + hi) / 2 = hh := ⟨_, rfl⟩
    have e2 : (P.length + 1 + lo + (P.length + 1 + hi)) / 2 = P.length + 1 + hh := by omega
    rw [e2] at f3 f4
    have e3 : IntKind.i64.wrap (((P.length + 1 + hh : Nat) : Int) + 1) = ((P.length + 1 + (hh + 1) : Nat) : Int) := by rw [i64_in _ (by omega)]; omega
    have r1 : (P ++ x0 :: (Y ++ S)).getD (P.length + 1 + hh) default = Y.getD hh default := by
      have := mid_get (P ++ [x0]) Y S hh (by omega)
      simpa [Nat.add_assoc] using this
    have r0 : (P ++ x0 :: (Y ++ S)).getD P.length default = x0 := by
      rw [List.getD_eq_getElem?_getD, List.getElem?_append_right (Nat.le_refl _), Nat.sub_self]; rfl
    have c1 := cmp_spec (Y.getD hh default) x0 (hok _ (getD_mem (by omega))) ho
    simp -implicitDefEqProofs only [RL0, RL1, RL2, RL3, RL4, RL5, RL6, RL7, RL8, RL9, chkW, ↓get_cons', ↓hget_cons', ↓hset_cons', St.gh, isNil, evalA, opTs, LOp.args, Nat.reduceBEq, renS, ren1, ren0, renB, only, sg, gmOf, wrN, buildCells, bsRows, Value.oneCell', setAt, eqCells, eqCell, vI, vB, vS, apartW, Nat.reduceEqDiff, Nat.reduceAdd, Nat.reduceSub, Nat.reduceMul, Nat.reduceLT, Nat.reduceLeDiff, Int.reduceEq, Int.reduceNe, Int.reduceLT, Int.reduceLE, reduceCtorEq, ↓reduceIte, ne_eq, eq_self, and_self, str_eq_iff, Int.toNat_natCast, cV, cR, c_set, List.length_set, e1, f1, f2, f3, f4, r1, r0]
    refine ⟨by omega, by omega, by omega, by omega, by omega, by omega, by kernel_rfl, ?_⟩
    refine callL_of (c1) [] false [] [] ?_ ?_
    · refine CallOk.of ?_ ?_ rfl ?_ rfl rfl rfl rfl ?_ rfl ?_ rfl
      all_goals simp [ML, args1, arg1, args0, lents1, lent1, lent0, lents0, lentB, rowsM, body0, only, sg, injB, apartB, keysOf, cur, resS, ↓get_cons', ↓hget_cons', Value.oneCell', eq_self, and_self, ne_eq, vI, rK_nil, rK_len, rK_take, rM_len, rM_take, Int.toNat_natCast, cV, cR, c_set, List.length_set, e3]
    simp -implicitDefEqProofs only [RL0, RL1, RL2, RL3, RL4, RL5, RL6, RL7, RL8, RL9, chkW, ↓get_cons', ↓hget_cons', ↓hset_cons', St.gh, isNil, evalA, opTs, LOp.args, Nat.reduceBEq, renS, ren1, ren0, renB, only, sg, gmOf, wrN, buildCells, bsRows, Value.oneCell', setAt, eqCells, eqCell, vI, vB, vS, apartW, Nat.reduceEqDiff, Nat.reduceAdd, Nat.reduceSub, Nat.reduceMul, Nat.reduceLT, Nat.reduceLeDiff, Int.reduceEq, Int.reduceNe, Int.reduceLT, Int.reduceLE, reduceCtorEq, ↓reduceIte, ne_eq, eq_self, and_self, str_eq_iff, Int.toNat_natCast, cV, cR, c_set, List.length_set, e3]
    refine ⟨fun hc => ⟨(hh + 1, hi), ⟨by simp only; omega, by simp only; omega, fun t ht => ?_, g4⟩, by simp only; omega, LE.refl _ _⟩, fun hc => ⟨(lo, hh), ⟨by simp only; omega, by simp only; omega, g3, fun t ht ht2 => ?_⟩, by simp only; omega, LE.refl _ _⟩⟩
    · have h1 := (ltZ_neg _ _).1 hc
      rw [ltZ_eq] at h1
      have h1 := of_decide_eq_true h1
      have h2 := sorted_getD hY (show t ≤ hh by simp only at ht; omega) (by omega)
      omega
    · have h1 : ¬ ltZ (Y.getD hh default) x0 = true := fun q => hc ((ltZ_neg _ _).2 q)
      rw [ltZ_eq] at h1
      have h1 : ¬ (keyZ (Y.getD hh default) < keyZ x0) := fun q => h1 (decide_eq_true q)
      have h2 := sorted_getD hY (show hh ≤ t from ht) ht2
      omega
  · have hlh : hi = lo := by omega
    subst hlh
    have e1 : (((P.length + 1 + hi : Nat) : Int) < ((P.length + 1 + hi : Nat) : Int)) = False := eq_false (by omega)
    have e2 : IntKind.i64.wrap (((P.length + 1 + hi : Nat) : Int) - 1) = ((P.length + hi : Nat) : Int) := by rw [i64_in _ (by omega)]; omega
    have hres : sortR ltZ (x0 :: Y) = Y.take hi ++ x0 :: Y.drop hi := by
      have hYs : SortedK keyZ (Y.take hi ++ Y.drop hi) := by rw [List.take_append_drop]; exact hY
      have h1 := merge_split keyZ (X1 := []) (X2 := [x0]) (Y1 := Y.take hi) (Y2 := Y.drop hi) (by simp [SortedK]) hYs
        (fun y hy x hx => by
          rw [List.mem_singleton.1 hx]
          obtain ⟨j, h1, h2, rfl⟩ := mem_take_getD hy
          exact g3 j h1) (by simp)
      have h2 : SortedK keyZ ([x0] ++ Y.drop hi) := by
        refine List.pairwise_append.2 ⟨by simp, hYs.right, fun a ha b hb => ?_⟩
        rw [List.mem_singleton.1 ha]
        obtain ⟨j, h1, h2, rfl⟩ := mem_drop_getD hb
        exact g4 j h1 h2
      rw [List.nil_append, List.nil_append, List.take_append_drop, sortK_of_sorted keyZ hYs.left, sortK_of_sorted keyZ h2] at h1
      rw [ltZ_eq]
      exact h1.symm
    rw [hres]
    simp -implicitDefEqProofs only [RL0, RL1, RL2, RL3, RL4, RL5, RL6, RL7, RL8, RL9, chkW, ↓get_cons', ↓hget_cons', ↓hset_cons', St.gh, isNil, evalA, opTs, LOp.args, Nat.reduceBEq, renS, ren1, ren0, renB, only, sg, gmOf, wrN, buildCells, bsRows, Value.oneCell', setAt, eqCells, eqCell, vI, vB, vS, apartW, Nat.reduceEqDiff, Nat.reduceAdd, Nat.reduceSub, Nat.reduceMul, Nat.reduceLT, Nat.reduceLeDiff, Int.reduceEq, Int.reduceNe, Int.reduceLT, Int.reduceLE, reduceCtorEq, ↓reduceIte, ne_eq, eq_self, and_self, str_eq_iff, Int.toNat_natCast, cV, cR, c_set, List.length_set, e1, e2]
    refine vc_loop (fun t : Nat => ⟨[(13, .d (.v (.int .i64 (P.length + t : Nat)))), (0, .view 1000 0 0 n), (10, .d (.v (.int .i64 (P.length + 1 + hi : Nat))))], [(1000, ⟨0, .arr 1 (rM cR (P ++ Y.take t ++ x0 :: (Y.drop t ++ S)))⟩)]⟩)
      (fun t => t ≤ hi) (fun t => hi - t) 0 (by omega) (by rw [List.take_zero, List.append_nil]; exact LE.refl _ _) ?_
    rintro t ht
    by_cases htl : t < hi
    · have e5 : (((P.length + t : Nat) : Int) < ((P.length + hi : Nat) : Int)) = True := eq_true (by omega)
      have e6 : IntKind.i64.wrap (((P.length + t : Nat) : Int) + 1) = ((P.length + t + 1 : Nat) : Int) := by rw [i64_in _ (by omega)]; omega
      have hA : (P ++ Y.take t).length = P.length + t := by simp; omega
      have hd : Y.drop t = Y.getD t default :: Y.drop (t + 1) := by
        rw [List.drop_eq_getElem_cons (by omega), List.getD_eq_getElem?_getD, List.getElem?_eq_getElem (by omega)]; rfl
      have htk : Y.take (t + 1) = Y.take t ++ [Y.getD t default] := by
        rw [List.take_succ_eq_append_getElem (by omega), List.getD_eq_getElem?_getD, List.getElem?_eq_getElem (by omega)]; rfl
      have hrow : P ++ Y.take t ++ x0 :: (Y.drop t ++ S) = (P ++ Y.take t) ++ x0 :: Y.getD t default :: (Y.drop (t + 1) ++ S) := by rw [hd]; rfl
      have q0 := ad_get0 (P ++ Y.take t) (Y.drop (t + 1) ++ S) x0 (Y.getD t default)
      have q1 := ad_get1 (P ++ Y.take t) (Y.drop (t + 1) ++ S) x0 (Y.getD t default)
      have q2 := ad_set (P ++ Y.take t) (Y.drop (t + 1) ++ S) x0 (Y.getD t default)
      have hlen : ((P ++ Y.take t) ++ x0 :: Y.getD t default :: (Y.drop (t + 1) ++ S)).length = n := by simp; omega
      rw [hA] at q0 q1 q2
      rw [hrow]
      generalize hV : Y.getD t default = v at *
      generalize hB : Y.drop (t + 1) ++ S = B at *
      simp -implicitDefEqProofs only [RL0, RL1, RL2, RL3, RL4, RL5, RL6, RL7, RL8, RL9, chkW, ↓get_cons', ↓hget_cons', ↓hset_cons', St.gh, isNil, evalA, opTs, LOp.args, Nat.reduceBEq, renS, ren1, ren0, renB, only, sg, gmOf, wrN, buildCells, bsRows, Value.oneCell', setAt, eqCells, eqCell, vI, vB, vS, apartW, Nat.reduceEqDiff, Nat.reduceAdd, Nat.reduceSub, Nat.reduceMul, Nat.reduceLT, Nat.reduceLeDiff, Int.reduceEq, Int.reduceNe, Int.reduceLT, Int.reduceLE, reduceCtorEq, ↓reduceIte, ne_eq, eq_self, and_self, str_eq_iff, Int.toNat_natCast, cV, cR, c_set, List.length_set, e2, e5, e6, q0, q1, q2]
      refine ⟨by omega, by omega, by omega, by omega, by omega, by omega, by omega, by omega, by omega, by omega, by omega, by omega, t + 1, by omega, by omega, ?_⟩
      rw [show P ++ Y.take (t + 1) ++ x0 :: (Y.drop (t + 1) ++ S) = P ++ Y.take t ++ v :: x0 :: B by rw [htk, hB]; simp]
      exact LE.refl _ _
    · have ht' : t = hi := by omega
      subst ht'
      have e5 : (((P.length + t : Nat) : Int) < ((P.length + t : Nat) : Int)) = False := eq_false (by omega)
      simp -implicitDefEqProofs only [RL0, RL1, RL2, RL3, RL4, RL5, RL6, RL7, RL8, RL9, chkW, ↓get_cons', ↓hget_cons', ↓hset_cons', St.gh, isNil, evalA, opTs, LOp.args, Nat.reduceBEq, renS, ren1, ren0, renB, only, sg, gmOf, wrN, buildCells, bsRows, Value.oneCell', setAt, eqCells, eqCell, vI, vB, vS, apartW, Nat.reduceEqDiff, Nat.reduceAdd, Nat.reduceSub, Nat.reduceMul, Nat.reduceLT, Nat.reduceLeDiff, Int.reduceEq, Int.reduceNe, Int.reduceLT, Int.reduceLE, reduceCtorEq, ↓reduceIte, ne_eq, eq_self, and_self, str_eq_iff, Int.toNat_natCast, cV, cR, c_set, List.length_set, e2, e5]
      rw [List.append_assoc, List.append_assoc] 
      refine RetOk.of [(1000, 1000)] [] ?_ ?_ rfl ?_ rfl rfl ?_
      all_goals simp [ML, args1, arg1, args0, lents1, lent1, lent0, lents0, lentB, rowsM, body0, only, sg, injB, apartB, keysOf, cur, resS, ↓get_cons', ↓hget_cons', Value.oneCell', eq_self, and_self, ne_eq, vI, rK_nil, Int.toNat_natCast, cV, cR, c_set, List.length_set]
theorem smB_spec (P X : List Z) (y0 : Z) (S : List Z) (h1x : X.length ≠ 1) (hX : SortedK keyZ X) (ho : okZ y0) (hok : ∀ z ∈ X, okZ z) (hl : (P ++ X ++ y0 :: S).length ≤ 2 ^ 40) :
    Eng.Spec Try.prog 61 [1000] [(1000, ⟨0, .arr 1 (rM cR (P ++ X ++ y0 :: S))⟩)]
    [.view 1000 0 0 (P ++ X ++ y0 :: S).length, .d (.v (.int .i64 P.length)), .d (.v (.int .i64 (P.length + X.length : Nat))), .d (.v (.int .i64 (P.length + X.length + 1 : Nat))), .d (.v (.func (.func 32) #[] #[]))]
    [(1000, ⟨0, .arr 1 (rM cR (P ++ sortR ltZ (X ++ [y0]) ++ S))⟩)] (.tup []) := by
  obtain ⟨n, hn⟩ : ∃ n, (P ++ X ++ y0 :: S).length = n := ⟨_, rfl⟩
  have hn2 : n = P.length + X.length + 1 + S.length := by rw [← hn]; simp; omega
  have w0 : ¬ IntKind.i64.wrap (((P.length + X.length : Nat) : Int) - (P.length : Int)) = 1 := by rw [hn] at hl; rw [i64_in _ (by omega)]; omega
  have w1 : IntKind.i64.wrap (((P.length + X.length + 1 : Nat) : Int) - ((P.length + X.length : Nat) : Int)) = 1 := by rw [hn] at hl; rw [i64_in _ (by omega)]; omega
  rw [hn] at hl ⊢
  refine told_spec mixed f61_told f61_results f61_text rfl (by simp) rfl ?_
  simp only [initS, List.length_cons, List.length_nil, List.range, List.range.loop, List.getD_cons_zero, List.getD_cons_succ, List.cons_append, List.nil_append, Int.toNat_natCast, cV, cR, c_set, List.length_set]
  simp -implicitDefEqProofs only [RL0, RL1, RL2, RL3, RL4, RL5, RL6, RL7, RL8, RL9, chkW, ↓get_cons', ↓hget_cons', ↓hset_cons', St.gh, isNil, evalA, opTs, LOp.args, Nat.reduceBEq, renS, ren1, ren0, renB, only, sg, gmOf, wrN, buildCells, bsRows, Value.oneCell', setAt, eqCells, eqCell, vI, vB, vS, apartW, Nat.reduceEqDiff, Nat.reduceAdd, Nat.reduceSub, Nat.reduceMul, Nat.reduceLT, Nat.reduceLeDiff, Int.reduceEq, Int.reduceNe, Int.reduceLT, Int.reduceLE, reduceCtorEq, ↓reduceIte, ne_eq, eq_self, and_self, str_eq_iff]
  refine ⟨fun q => absurd q w0, fun _ => ⟨fun _ => ?_, fun q => absurd w1 q⟩⟩
  refine vc_loop (fun x : Nat × Nat => ⟨[(0, .view 1000 0 0 n), (2, .d (.v (.int .i64 (P.length + X.length : Nat)))), (4, .d (.v (.func (.func 32) #[] #[]))), (15, .d (.v (.int .i64 (P.length + x.2 : Nat)))), (14, .d (.v (.int .i64 (P.length + x.1 : Nat))))], [(1000, ⟨0, .arr 1 (rM cR (P ++ X ++ y0 :: S))⟩)]⟩)
    (fun x => x.1 ≤ x.2 ∧ x.2 ≤ X.length ∧ (∀ t, t < x.1 → keyZ (X.getD t default) ≤ keyZ y0) ∧ (∀ t, x.2 ≤ t → t < X.length → keyZ y0 < keyZ (X.getD t default))) (fun x => x.2 - x.1) (0, X.length)
    ⟨by omega, by omega, by simp, by simp only; omega⟩ (LE.refl _ _) ?_
  rintro ⟨lo, hi⟩ ⟨g1, g2, g3, g4⟩
  simp only at g1 g2 g3 g4
  by_cases hlt : lo < hi
  · have e1 : (((P.length + lo : Nat) : Int) < ((P.length + hi : Nat) : Int)) = True := eq_true (by omega)
    obtain ⟨f1, f2, f3, f4⟩ := half_facts (P.length + lo) (P.length + hi) (by omega)
    obtain ⟨hh, hhh⟩ : ∃ hh, (lo + hi) / 2 = hh := ⟨_, rfl⟩
    have e2 : (P.length + lo + (P.length + hi)) / 2 = P.length + hh := by omega
    rw [e2] at f3 f4
    have e3 : IntKind.i64.wrap (((P.length + hh : Nat) : Int) + 1) = ((P.length + (hh + 1) : Nat) : Int) := by rw [i64_in _ (by omega)]; omega
    have r1 : (P ++ X ++ y0 :: S).getD (P.length + hh) default = X.getD hh default := mid_get P X (y0 :: S) hh (by omega)
    have r0 : (P ++ X ++ y0 :: S).getD (P.length + X.length) default = y0 := by
      rw [List.getD_eq_getElem?_getD, List.getElem?_append_right (by simp), List.length_append, Nat.sub_self]; rfl
    have c1 := cmp_spec y0 (X.getD hh default) ho (hok _ (getD_mem (by omega)))
    simp -implicitDefEqProofs only [RL0, RL1, RL2, RL3, RL4, RL5, RL6, RL7, RL8, RL9, chkW, ↓get_cons', ↓hget_cons', ↓hset_cons', St.gh, isNil, evalA, opTs, LOp.args, Nat.reduceBEq, renS, ren1, ren0, renB, only, sg, gmOf, wrN, buildCells, bsRows, Value.oneCell', setAt, eqCells, eqCell, vI, vB, vS, apartW, Nat.reduceEqDiff, Nat.reduceAdd, Nat.reduceSub, Nat.reduceMul, Nat.reduceLT, Nat.reduceLeDiff, Int.reduceEq, Int.reduceNe, Int.reduceLT, Int.reduceLE, reduceCtorEq, ↓reduceIte, ne_eq, eq_self, and_self, str_eq_iff, Int.toNat_natCast, cV, cR, c_set, List.length_set, e1, f1, f2, f3, f4, r1, r0]
    refine ⟨by omega, by omega, by omega, by omega, by omega, by omega, by kernel_rfl, ?_⟩
    refine callL_of (c1) [] false [] [] ?_ ?_
    · refine CallOk.of ?_ ?_ rfl ?_ rfl rfl rfl rfl ?_ rfl ?_ rfl
      all_goals simp [ML, args1, arg1, args0, lents1, lent1, lent0, lents0, lentB, rowsM, body0, only, sg, injB, apartB, keysOf, cur, resS, ↓get_cons', ↓hget_cons', Value.oneCell', eq_self, and_self, ne_eq, vI, rK_nil, rK_len, rK_take, rM_len, rM_take, Int.toNat_natCast, cV, cR, c_set, List.length_set, e3]
    simp -implicitDefEqProofs only [RL0, RL1, RL2, RL3, RL4, RL5, RL6, RL7, RL8, RL9, chkW, ↓get_cons', ↓hget_cons', ↓hset_cons', St.gh, isNil, evalA, opTs, LOp.args, Nat.reduceBEq, renS, ren1, ren0, renB, only, sg, gmOf, wrN, buildCells, bsRows, Value.oneCell', setAt, eqCells, eqCell, vI, vB, vS, apartW, Nat.reduceEqDiff, Nat.reduceAdd, Nat.reduceSub, Nat.reduceMul, Nat.reduceLT, Nat.reduceLeDiff, Int.reduceEq, Int.reduceNe, Int.reduceLT, Int.reduceLE, reduceCtorEq, ↓reduceIte, ne_eq, eq_self, and_self, str_eq_iff, Int.toNat_natCast, cV, cR, c_set, List.length_set, e3]
    refine ⟨fun hc => ⟨(hh + 1, hi), ⟨by simp only; omega, by simp only; omega, fun t ht => ?_, g4⟩, by simp only; omega, LE.refl _ _⟩, fun hc => ⟨(lo, hh), ⟨by simp only; omega, by simp only; omega, g3, fun t ht ht2 => ?_⟩, by simp only; omega, LE.refl _ _⟩⟩
    · have h1 : ¬ ltZ y0 (X.getD hh default) = true := fun q => hc ((ltZ_neg _ _).2 q)
      rw [ltZ_eq] at h1
      have h1 : ¬ (keyZ y0 < keyZ (X.getD hh default)) := fun q => h1 (decide_eq_true q)
      have h2 := sorted_getD hX (show t ≤ hh by simp only at ht; omega) (by omega)
      omega
    · have h1 := (ltZ_neg _ _).1 (Decidable.not_not.1 hc)
      rw [ltZ_eq] at h1
      have h1 := of_decide_eq_true h1
      have h2 := sorted_getD hX (show hh ≤ t from ht) ht2
      omega
  · have hlh : hi = lo := by omega
    subst hlh
    have e1 : (((P.length + hi : Nat) : Int) < ((P.length + hi : Nat) : Int)) = False := eq_false (by omega)
    have hres : sortR ltZ (X ++ [y0]) = X.take hi ++ y0 :: X.drop hi := by
      have hXs : SortedK keyZ (X.take hi ++ X.drop hi) := by rw [List.take_append_drop]; exact hX
      have h1 := merge_split keyZ (X1 := X.take hi) (X2 := X.drop hi) (Y1 := [y0]) (Y2 := []) hXs (by simp [SortedK])
        (fun y hy x hx => by
          rw [List.mem_singleton.1 hy]
          obtain ⟨j, h1, h2, rfl⟩ := mem_drop_getD hx
          exact g4 j h1 h2) (by simp)
      have h2 : SortedK keyZ (X.take hi ++ [y0]) := by
        refine List.pairwise_append.2 ⟨hXs.left, by simp, fun a ha b hb => ?_⟩
        rw [List.mem_singleton.1 hb]
        obtain ⟨j, h1, h2, rfl⟩ := mem_take_getD ha
        exact g3 j h1
      rw [List.append_nil, List.append_nil, List.take_append_drop, sortK_of_sorted keyZ hXs.right, sortK_of_sorted keyZ h2] at h1
      rw [ltZ_eq, ← h1]
      simp
    rw [hres]
    simp -implicitDefEqProofs only [RL0, RL1, RL2, RL3, RL4, RL5, RL6, RL7, RL8, RL9, chkW, ↓get_cons', ↓hget_cons', ↓hset_cons', St.gh, isNil, evalA, opTs, LOp.args, Nat.reduceBEq, renS, ren1, ren0, renB, only, sg, gmOf, wrN, buildCells, bsRows, Value.oneCell', setAt, eqCells, eqCell, vI, vB, vS, apartW, Nat.reduceEqDiff, Nat.reduceAdd, Nat.reduceSub, Nat.reduceMul, Nat.reduceLT, Nat.reduceLeDiff, Int.reduceEq, Int.reduceNe, Int.reduceLT, Int.reduceLE, reduceCtorEq, ↓reduceIte, ne_eq, eq_self, and_self, str_eq_iff, Int.toNat_natCast, cV, cR, c_set, List.length_set, e1]
    refine vc_loop (fun t : Nat => ⟨[(17, .d (.v (.int .i64 (P.length + t : Nat)))), (0, .view 1000 0 0 n), (14, .d (.v (.int .i64 (P.length + hi : Nat))))], [(1000, ⟨0, .arr 1 (rM cR (P ++ X.take t ++ y0 :: (X.drop t ++ S)))⟩)]⟩)
      (fun t => hi ≤ t ∧ t ≤ X.length) (fun t => t) X.length (by omega) (by rw [List.take_length, List.drop_length]; exact LE.refl _ _) ?_
    rintro t ⟨ht, ht2⟩
    by_cases htl : hi < t
    · obtain ⟨t, rfl⟩ : ∃ t', t = t' + 1 := ⟨t - 1, by omega⟩
      have e5 : (((P.length + hi : Nat) : Int) < ((P.length + (t + 1) : Nat) : Int)) = True := eq_true (by omega)
      have e6 : IntKind.i64.wrap (((P.length + (t + 1) : Nat) : Int) - 1) = ((P.length + t : Nat) : Int) := by rw [i64_in _ (by omega)]; omega
      have hA : (P ++ X.take t).length = P.length + t := by simp; omega
      have hd : X.drop t = X.getD t default :: X.drop (t + 1) := by
        rw [List.drop_eq_getElem_cons (by omega), List.getD_eq_getElem?_getD, List.getElem?_eq_getElem (by omega)]; rfl
      have htk : X.take (t + 1) = X.take t ++ [X.getD t default] := by
        rw [List.take_succ_eq_append_getElem (by omega), List.getD_eq_getElem?_getD, List.getElem?_eq_getElem (by omega)]; rfl
      have hrow : P ++ X.take (t + 1) ++ y0 :: (X.drop (t + 1) ++ S) = (P ++ X.take t) ++ X.getD t default :: y0 :: (X.drop (t + 1) ++ S) := by rw [htk]; simp
      have q0 := ad_get0 (P ++ X.take t) (X.drop (t + 1) ++ S) (X.getD t default) y0
      have q1 := ad_get1 (P ++ X.take t) (X.drop (t + 1) ++ S) (X.getD t default) y0
      have q2 := ad_set' (P ++ X.take t) (X.drop (t + 1) ++ S) (X.getD t default) y0
      have hlen : ((P ++ X.take t) ++ X.getD t default :: y0 :: (X.drop (t + 1) ++ S)).length = n := by simp; omega
      have hnew : P ++ X.take t ++ y0 :: (X.drop t ++ S) = P ++ X.take t ++ y0 :: X.getD t default :: (X.drop (t + 1) ++ S) := by rw [hd]; rfl
      rw [hA] at q0 q1 q2
      rw [Nat.add_assoc] at q1 q2
      rw [hrow]
      generalize hV : X.getD t default = v at *
      generalize hB : X.drop (t + 1) ++ S = B at *
      simp -implicitDefEqProofs only [RL0, RL1, RL2, RL3, RL4, RL5, RL6, RL7, RL8, RL9, chkW, ↓get_cons', ↓hget_cons', ↓hset_cons', St.gh, isNil, evalA, opTs, LOp.args, Nat.reduceBEq, renS, ren1, ren0, renB, only, sg, gmOf, wrN, buildCells, bsRows, Value.oneCell', setAt, eqCells, eqCell, vI, vB, vS, apartW, Nat.reduceEqDiff, Nat.reduceAdd, Nat.reduceSub, Nat.reduceMul, Nat.reduceLT, Nat.reduceLeDiff, Int.reduceEq, Int.reduceNe, Int.reduceLT, Int.reduceLE, reduceCtorEq, ↓reduceIte, ne_eq, eq_self, and_self, str_eq_iff, Int.toNat_natCast, cV, cR, c_set, List.length_set, e5, e6, q0, q1, q2]
      refine ⟨by omega, by omega, by omega, by omega, by omega, by omega, by omega, by omega, by omega, by omega, by omega, by omega, t, by omega, by omega, ?_⟩
      rw [hnew]
      exact LE.refl _ _
    · have ht' : t = hi := by omega
      subst ht'
      have e5 : (((P.length + t : Nat) : Int) < ((P.length + t : Nat) : Int)) = False := eq_false (by omega)
      simp -implicitDefEqProofs only [RL0, RL1, RL2, RL3, RL4, RL5, RL6, RL7, RL8, RL9, chkW, ↓get_cons', ↓hget_cons', ↓hset_cons', St.gh, isNil, evalA, opTs, LOp.args, Nat.reduceBEq, renS, ren1, ren0, renB, only, sg, gmOf, wrN, buildCells, bsRows, Value.oneCell', setAt, eqCells, eqCell, vI, vB, vS, apartW, Nat.reduceEqDiff, Nat.reduceAdd, Nat.reduceSub, Nat.reduceMul, Nat.reduceLT, Nat.reduceLeDiff, Int.reduceEq, Int.reduceNe, Int.reduceLT, Int.reduceLE, reduceCtorEq, ↓reduceIte, ne_eq, eq_self, and_self, str_eq_iff, Int.toNat_natCast, cV, cR, c_set, List.length_set, e5]
      rw [List.append_assoc, List.append_assoc]
      refine RetOk.of [(1000, 1000)] [] ?_ ?_ rfl ?_ rfl rfl ?_
      all_goals simp [ML, args1, arg1, args0, lents1, lent1, lent0, lents0, lentB, rowsM, body0, only, sg, injB, apartB, keysOf, cur, resS, ↓get_cons', ↓hget_cons', Value.oneCell', eq_self, and_self, ne_eq, vI, rK_nil, Int.toNat_natCast, cV, cR, c_set, List.length_set]
end Go.Proofs.Ex
