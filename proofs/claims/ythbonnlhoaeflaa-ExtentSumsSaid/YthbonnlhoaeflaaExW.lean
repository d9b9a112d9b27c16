import Derived.Test.YthbonnlhoaeflaaExV
set_option linter.unusedVariables false
set_option linter.unusedSimpArgs false
-- DEFS Int.toNat_natCast, cV, cR, c_set, List.length_set
namespace Go.Proofs.Ex
open Go.RowKit Go.Lib Go.Eng Go.Proofs Go.IntWalk
set_option maxRecDepth 100000
set_option linter.unusedVariables false
set_option maxHeartbeats 4000000
theorem sm_loop (N : Nat) (IH : ∀ (P X Y S : List Z), X.length + Y.length ≤ N → 0 < X.length → 0 < Y.length → SortedK keyZ X → SortedK keyZ Y → (∀ z ∈ X ++ Y, okZ z) → (P ++ X ++ Y ++ S).length ≤ 2 ^ 40 →
    Eng.Spec Try.prog 61 [1000] [(1000, ⟨0, .arr 1 (rM cR (P ++ X ++ Y ++ S))⟩)]
    [.view 1000 0 0 (P ++ X ++ Y ++ S).length, .d (.v (.int .i64 P.length)), .d (.v (.int .i64 (P.length + X.length : Nat))), .d (.v (.int .i64 (P.length + X.length + Y.length : Nat))), .d (.v (.func (.func 32) #[] #[]))]
    [(1000, ⟨0, .arr 1 (rM cR (P ++ sortR ltZ (X ++ Y) ++ S))⟩)] (.tup []))
    (P X Y S : List Z) (lo0 hi0 c n : Nat) (hn : (P ++ X ++ Y ++ S).length = n) (hl : n ≤ 2 ^ 40) (hN : X.length + Y.length ≤ N + 1) (hx : 2 ≤ X.length) (hy : 2 ≤ Y.length) (hX : SortedK keyZ X) (hY : SortedK keyZ Y) (hok : ∀ z ∈ X ++ Y, okZ z)
    (hc : (X.length + Y.length) / 2 = c) (hlo : lo0 = c - Y.length) (hhi : hi0 = min c X.length) :
    vc Try.prog [1000] (LC.seq l61r36 (LC.seq (LC.block 8 (LC.loop l61r42)) (LC.seq l61r43 (LC.seq (LC.seq l61r44 (LC.cond (LA.t 185) l61r45 LC.skip)) (LC.seq (LC.seq l61r46 (LC.cond (LA.t 199) l61r47 LC.skip)) (LC.seq l61r48 (LC.cond (LA.t 213) l61r49 LC.skip))))))) ⟨[(0, .view 1000 0 0 n), (4, .d (.v (.func (.func 32) #[] #[]))), (21, .d (.v (.int .i64 (P.length + hi0 : Nat)))), (20, .d (.v (.int .i64 (P.length + lo0 : Nat)))), (3, .d (.v (.int .i64 (P.length + X.length + Y.length : Nat)))), (18, .d (.v (.int .i64 (P.length + c : Nat)))), (1, .d (.v (.int .i64 P.length))), (2, .d (.v (.int .i64 (P.length + X.length : Nat)))), (19, .d (.v (.int .i64 (2 * P.length + c + X.length : Nat))))], [(1000, ⟨0, .arr 1 (rM cR (P ++ X ++ Y ++ S))⟩)]⟩
      (fun e st => (e = Exit.normal ∨ e = Exit.ret) ∧ RetOk [] st [1000] [(1000, ⟨0, .arr 1 (rM cR (P ++ sortR ltZ (X ++ Y) ++ S))⟩)] (.tup [])) := by
  have hn2 : n = P.length + X.length + Y.length + S.length := by rw [← hn]; simp; omega
  have e9 : IntKind.i64.wrap (((2 * P.length + c + X.length : Nat) : Int) - 1) = ((2 * P.length + c + X.length - 1 : Nat) : Int) := by rw [i64_in _ (by omega)]; omega
  generalize hT : (LC.seq l61r43 (LC.seq (LC.seq l61r44 (LC.cond (LA.t 185) l61r45 LC.skip)) (LC.seq (LC.seq l61r46 (LC.cond (LA.t 199) l61r47 LC.skip)) (LC.seq l61r48 (LC.cond (LA.t 213) l61r49 LC.skip))))) = TT
  simp -implicitDefEqProofs only [RL0, RL1, RL2, RL3, RL4, RL5, RL6, RL7, RL8, RL9, chkW, ↓get_cons', ↓hget_cons', ↓hset_cons', St.gh, isNil, evalA, opTs, LOp.args, Nat.reduceBEq, renS, ren1, ren0, renB, only, sg, gmOf, wrN, buildCells, bsRows, Value.oneCell', setAt, eqCells, eqCell, vI, vB, vS, apartW, Nat.reduceEqDiff, Nat.reduceAdd, Nat.reduceSub, Nat.reduceMul, Nat.reduceLT, Nat.reduceLeDiff, Int.reduceEq, Int.reduceNe, Int.reduceLT, Int.reduceLE, reduceCtorEq, ↓reduceIte, ne_eq, eq_self, and_self, str_eq_iff, Int.toNat_natCast, cV, cR, c_set, List.length_set, e9]
  refine vc_loop (fun x : Nat × Nat => ⟨[(0, .view 1000 0 0 n), (22, .d (.v (.int .i64 (2 * P.length + c + X.length - 1 : Nat)))), (4, .d (.v (.func (.func 32) #[] #[]))), (21, .d (.v (.int .i64 (P.length + x.2 : Nat)))), (20, .d (.v (.int .i64 (P.length + x.1 : Nat)))), (3, .d (.v (.int .i64 (P.length + X.length + Y.length : Nat)))), (18, .d (.v (.int .i64 (P.length + c : Nat)))), (1, .d (.v (.int .i64 P.length))), (2, .d (.v (.int .i64 (P.length + X.length : Nat)))), (19, .d (.v (.int .i64 (2 * P.length + c + X.length : Nat))))], [(1000, ⟨0, .arr 1 (rM cR (P ++ X ++ Y ++ S))⟩)]⟩)
    (fun x => lo0 ≤ x.1 ∧ x.1 ≤ x.2 ∧ x.2 ≤ hi0 ∧ (∀ t, lo0 ≤ t → t < x.1 → keyZ (X.getD t default) ≤ keyZ (Y.getD (c - 1 - t) default)) ∧ (∀ t, x.2 ≤ t → t < hi0 → keyZ (Y.getD (c - 1 - t) default) < keyZ (X.getD t default))) (fun x => x.2 - x.1) (lo0, hi0)
    ⟨by omega, by simp only; omega, by omega, by simp only; omega, by simp only; omega⟩ (LE.refl _ _) ?_
  rintro ⟨s, r⟩ ⟨g0, g1, g2, g3, g4⟩
  simp only at g0 g1 g2 g3 g4
  by_cases hlt : s < r
  · have e1 : (((P.length + s : Nat) : Int) < ((P.length + r : Nat) : Int)) = True := eq_true (by omega)
    obtain ⟨f1, f2, f3, f4⟩ := half_facts (P.length + s) (P.length + r) (by omega)
    obtain ⟨hh, hhh⟩ : ∃ hh, (s + r) / 2 = hh := ⟨_, rfl⟩
    have e2 : (P.length + s + (P.length + r)) / 2 = P.length + hh := by omega
    rw [e2] at f3 f4
    have e3 : IntKind.i64.wrap (((P.length + hh : Nat) : Int) + 1) = ((P.length + (hh + 1) : Nat) : Int) := by rw [i64_in _ (by omega)]; omega
    have e5 : IntKind.i64.wrap (((2 * P.length + c + X.length - 1 : Nat) : Int) - ((P.length + hh : Nat) : Int)) = ((P.length + X.length + (c - 1 - hh) : Nat) : Int) := by rw [i64_in _ (by omega)]; omega
    have r1 : (P ++ X ++ Y ++ S).getD (P.length + hh) default = X.getD hh default := by
      rw [List.append_assoc (P ++ X)]; exact mid_get P X (Y ++ S) hh (by omega)
    have r0 : (P ++ X ++ Y ++ S).getD (P.length + X.length + (c - 1 - hh)) default = Y.getD (c - 1 - hh) default := by
      rw [← List.length_append]; exact mid_get (P ++ X) Y S _ (by omega)
    have c1 := cmp_spec (Y.getD (c - 1 - hh) default) (X.getD hh default) (hok _ (List.mem_append_right _ (getD_mem (by omega)))) (hok _ (List.mem_append_left _ (getD_mem (by omega))))
    simp -implicitDefEqProofs only [RL0, RL1, RL2, RL3, RL4, RL5, RL6, RL7, RL8, RL9, chkW, ↓get_cons', ↓hget_cons', ↓hset_cons', St.gh, isNil, evalA, opTs, LOp.args, Nat.reduceBEq, renS, ren1, ren0, renB, only, sg, gmOf, wrN, buildCells, bsRows, Value.oneCell', setAt, eqCells, eqCell, vI, vB, vS, apartW, Nat.reduceEqDiff, Nat.reduceAdd, Nat.reduceSub, Nat.reduceMul, Nat.reduceLT, Nat.reduceLeDiff, Int.reduceEq, Int.reduceNe, Int.reduceLT, Int.reduceLE, reduceCtorEq, ↓reduceIte, ne_eq, eq_self, and_self, str_eq_iff, Int.toNat_natCast, cV, cR, c_set, List.length_set, e1, f1, f2, f3, f4, e5, r1, r0]
    refine ⟨by omega, by omega, by omega, by omega, by omega, by omega, by kernel_rfl, ?_⟩
    refine callL_of (c1) [] false [] [] ?_ ?_
    · refine CallOk.of ?_ ?_ rfl ?_ rfl rfl rfl rfl ?_ rfl ?_ rfl
      all_goals simp [ML, args1, arg1, args0, lents1, lent1, lent0, lents0, lentB, rowsM, body0, only, sg, injB, apartB, keysOf, cur, resS, ↓get_cons', ↓hget_cons', Value.oneCell', eq_self, and_self, ne_eq, vI, rK_nil, rK_len, rK_take, rM_len, rM_take, Int.toNat_natCast, cV, cR, c_set, List.length_set, e3]
    simp -implicitDefEqProofs only [RL0, RL1, RL2, RL3, RL4, RL5, RL6, RL7, RL8, RL9, chkW, ↓get_cons', ↓hget_cons', ↓hset_cons', St.gh, isNil, evalA, opTs, LOp.args, Nat.reduceBEq, renS, ren1, ren0, renB, only, sg, gmOf, wrN, buildCells, bsRows, Value.oneCell', setAt, eqCells, eqCell, vI, vB, vS, apartW, Nat.reduceEqDiff, Nat.reduceAdd, Nat.reduceSub, Nat.reduceMul, Nat.reduceLT, Nat.reduceLeDiff, Int.reduceEq, Int.reduceNe, Int.reduceLT, Int.reduceLE, reduceCtorEq, ↓reduceIte, ne_eq, eq_self, and_self, str_eq_iff, Int.toNat_natCast, cV, cR, c_set, List.length_set, e3]
    refine ⟨fun hc => ⟨(hh + 1, r), ⟨by simp only; omega, by simp only; omega, by simp only; omega, fun t ht ht2 => ?_, g4⟩, by simp only; omega, LE.refl _ _⟩, fun hc => ⟨(s, hh), ⟨by simp only; omega, by simp only; omega, by simp only; omega, g3, fun t ht ht2 => ?_⟩, by simp only; omega, LE.refl _ _⟩⟩
    · have h1 : ¬ ltZ (Y.getD (c - 1 - hh) default) (X.getD hh default) = true := fun q => hc ((ltZ_neg _ _).2 q)
      rw [ltZ_eq] at h1
      have h1 : ¬ (keyZ (Y.getD (c - 1 - hh) default) < keyZ (X.getD hh default)) := fun q => h1 (decide_eq_true q)
      have h2 := sorted_getD hX (show t ≤ hh by simp only at ht2; omega) (by omega)
      have h3 := sorted_getD hY (show c - 1 - hh ≤ c - 1 - t by simp only at ht2; omega) (by omega)
      omega
    · have h1 := (ltZ_neg _ _).1 (Decidable.not_not.1 hc)
      rw [ltZ_eq] at h1
      have h1 := of_decide_eq_true h1
      have h2 := sorted_getD hX (show hh ≤ t from ht) (by omega)
      have h3 := sorted_getD hY (show c - 1 - t ≤ c - 1 - hh by simp only at ht; omega) (by omega)
      omega
  · have hsr : r = s := by omega
    subst hsr
    have e1 : (((P.length + r : Nat) : Int) < ((P.length + r : Nat) : Int)) = False := eq_false (by omega)
    have e2 : IntKind.i64.wrap (((2 * P.length + c + X.length : Nat) : Int) - ((P.length + r : Nat) : Int)) = ((P.length + (c + X.length - r) : Nat) : Int) := by rw [i64_in _ (by omega)]; omega
  -- the exit
    have hXs : SortedK keyZ (X.take r ++ X.drop r) := by rw [List.take_append_drop]; exact hX
    have hYs : SortedK keyZ (Y.take (c - r) ++ Y.drop (c - r)) := by rw [List.take_append_drop]; exact hY
    have hms := merge_split keyZ hXs hYs
      (fun y hy x hx => by
        obtain ⟨j, j1, j2, rfl⟩ := mem_take_getD hy
        obtain ⟨i, i1, i2, rfl⟩ := mem_drop_getD hx
        have a1 := g4 r (Nat.le_refl _) (by omega)
        have a2 := sorted_getD hX i1 i2
        have a3 := sorted_getD hY (show j ≤ c - 1 - r by omega) (by omega)
        omega)
      (fun x hx y hy => by
        obtain ⟨i, i1, i2, rfl⟩ := mem_take_getD hx
        obtain ⟨j, j1, j2, rfl⟩ := mem_drop_getD hy
        have a1 := g3 (r - 1) (by omega) (by omega)
        have a2 := sorted_getD hX (show i ≤ r - 1 by omega) (by omega)
        have a3 := sorted_getD hY (show c - 1 - (r - 1) ≤ j by omega) j2
        omega)
    rw [List.take_append_drop, List.take_append_drop, ← ltZ_eq] at hms
    have lX1 : (X.take r).length = r := by simp; omega
    have lX2 : (X.drop r).length = X.length - r := by simp
    have lY1 : (Y.take (c - r)).length = c - r := by simp; omega
    have lY2 : (Y.drop (c - r)).length = Y.length - (c - r) := by simp
    have tX : X.take r ++ X.drop r = X := List.take_append_drop ..
    have tY : Y.take (c - r) ++ Y.drop (c - r) = Y := List.take_append_drop ..
    have ok1 : ∀ z ∈ X.take r ++ Y.take (c - r), okZ z := fun z hz => hok z (by
      rcases List.mem_append.1 hz with hz | hz
      · exact List.mem_append_left _ (List.mem_of_mem_take hz)
      · exact List.mem_append_right _ (List.mem_of_mem_take hz))
    have ok2 : ∀ z ∈ X.drop r ++ Y.drop (c - r), okZ z := fun z hz => hok z (by
      rcases List.mem_append.1 hz with hz | hz
      · exact List.mem_append_left _ (List.mem_of_mem_drop hz)
      · exact List.mem_append_right _ (List.mem_of_mem_drop hz))
    have s1 : r < X.length ∧ r < c → Eng.Spec Try.prog 67 [1000] [(1000, ⟨0, .arr 1 (rM cR (P ++ X ++ Y ++ S))⟩)] [.view 1000 0 0 n, .d (.v (.int .i64 (P.length + r : Nat))), .d (.v (.int .i64 (P.length + X.length : Nat))), .d (.v (.int .i64 (P.length + (c + X.length - r) : Nat))), .d (.v (.func (.func 32) #[] #[]))] [(1000, ⟨0, .arr 1 (rM cR (P ++ X.take r ++ Y.take (c - r) ++ X.drop r ++ Y.drop (c - r) ++ S))⟩)] (.tup []) := fun hh => by
      have h0 := rotate_spec (P ++ X.take r) (X.drop r) (Y.take (c - r)) (Y.drop (c - r) ++ S) (by omega) (by omega) (by simp; omega)
      have a1 : P ++ X.take r ++ X.drop r ++ Y.take (c - r) ++ (Y.drop (c - r) ++ S) = P ++ X ++ Y ++ S := by rw [List.append_assoc P, tX, List.append_assoc (P ++ X), ← List.append_assoc (Y.take (c - r)), tY, ← List.append_assoc]
      have a2 : P ++ X.take r ++ Y.take (c - r) ++ X.drop r ++ (Y.drop (c - r) ++ S) = P ++ X.take r ++ Y.take (c - r) ++ X.drop r ++ Y.drop (c - r) ++ S := by rw [← List.append_assoc]
      have a3 : (P ++ X.take r).length = P.length + r := by rw [List.length_append, lX1]
      have a4 : P.length + r + (X.drop r).length = P.length + X.length := by omega
      have a5 : P.length + X.length + (Y.take (c - r)).length = P.length + (c + X.length - r) := by omega
      rwa [a1, a2, a3, a4, a5, hn] at h0
    have s2 : 0 < r ∧ r < c → Eng.Spec Try.prog 61 [1000] [(1000, ⟨0, .arr 1 (rM cR (P ++ X.take r ++ Y.take (c - r) ++ X.drop r ++ Y.drop (c - r) ++ S))⟩)] [.view 1000 0 0 n, .d (.v (.int .i64 P.length)), .d (.v (.int .i64 (P.length + r : Nat))), .d (.v (.int .i64 (P.length + c : Nat))), .d (.v (.func (.func 32) #[] #[]))] [(1000, ⟨0, .arr 1 (rM cR (P ++ sortR ltZ (X.take r ++ Y.take (c - r)) ++ X.drop r ++ Y.drop (c - r) ++ S))⟩)] (.tup []) := fun hh => by
      have h0 := IH P (X.take r) (Y.take (c - r)) (X.drop r ++ Y.drop (c - r) ++ S) (by omega) (by omega) (by omega) hXs.left hYs.left ok1 (by simp; omega)
      have a1 : P ++ X.take r ++ Y.take (c - r) ++ (X.drop r ++ Y.drop (c - r) ++ S) = P ++ X.take r ++ Y.take (c - r) ++ X.drop r ++ Y.drop (c - r) ++ S := by simp only [List.append_assoc]
      have a2 : P ++ sortR ltZ (X.take r ++ Y.take (c - r)) ++ (X.drop r ++ Y.drop (c - r) ++ S) = P ++ sortR ltZ (X.take r ++ Y.take (c - r)) ++ X.drop r ++ Y.drop (c - r) ++ S := by simp only [List.append_assoc]
      have a3 : (P ++ X.take r ++ Y.take (c - r) ++ X.drop r ++ Y.drop (c - r) ++ S).length = n := by simp only [List.length_append, lX1, lX2, lY1, lY2]; omega
      have a4 : P.length + (X.take r).length = P.length + r := by rw [lX1]
      have a5 : P.length + r + (Y.take (c - r)).length = P.length + c := by omega
      rwa [a1, a2, a3, a4, a5] at h0
    have s3 : r < X.length ∧ c - r < Y.length → Eng.Spec Try.prog 61 [1000] [(1000, ⟨0, .arr 1 (rM cR (P ++ sortR ltZ (X.take r ++ Y.take (c - r)) ++ X.drop r ++ Y.drop (c - r) ++ S))⟩)] [.view 1000 0 0 n, .d (.v (.int .i64 (P.length + c : Nat))), .d (.v (.int .i64 (P.length + (c + X.length - r) : Nat))), .d (.v (.int .i64 (P.length + X.length + Y.length : Nat))), .d (.v (.func (.func 32) #[] #[]))] [(1000, ⟨0, .arr 1 (rM cR (P ++ sortR ltZ (X.take r ++ Y.take (c - r)) ++ sortR ltZ (X.drop r ++ Y.drop (c - r)) ++ S))⟩)] (.tup []) := fun hh => by
      have lQ : (sortR ltZ (X.take r ++ Y.take (c - r))).length = c := by rw [sortR_len, List.length_append]; omega
      have h0 := IH (P ++ sortR ltZ (X.take r ++ Y.take (c - r))) (X.drop r) (Y.drop (c - r)) S (by omega) (by omega) (by omega) hXs.right hYs.right ok2 (by simp only [List.length_append, lX2, lY2, lQ]; omega)
      have a3 : (P ++ sortR ltZ (X.take r ++ Y.take (c - r)) ++ X.drop r ++ Y.drop (c - r) ++ S).length = n := by simp only [List.length_append, lX2, lY2, lQ]; omega
      have a4 : (P ++ sortR ltZ (X.take r ++ Y.take (c - r))).length = P.length + c := by rw [List.length_append, lQ]
      have a5 : P.length + c + (X.drop r).length = P.length + (c + X.length - r) := by omega
      have a6 : P.length + (c + X.length - r) + (Y.drop (c - r)).length = P.length + X.length + Y.length := by omega
      rwa [a3, a4, a5, a6] at h0
    have d1 : ¬ (r < X.length ∧ r < c) → P ++ X ++ Y ++ S = P ++ X.take r ++ Y.take (c - r) ++ X.drop r ++ Y.drop (c - r) ++ S := fun hh => by
      have a1 : P ++ X ++ Y ++ S = P ++ (X.take r ++ X.drop r) ++ (Y.take (c - r) ++ Y.drop (c - r)) ++ S := by rw [tX, tY]
      rw [a1]
      by_cases hA : r < X.length
      · have : Y.take (c - r) = [] := List.eq_nil_of_length_eq_zero (by omega)
        rw [this]; simp
      · have : X.drop r = [] := List.eq_nil_of_length_eq_zero (by omega)
        rw [this]; simp
    have d2 : ¬ (0 < r ∧ r < c) → P ++ X.take r ++ Y.take (c - r) ++ X.drop r ++ Y.drop (c - r) ++ S = P ++ sortR ltZ (X.take r ++ Y.take (c - r)) ++ X.drop r ++ Y.drop (c - r) ++ S := fun hh => by
      have : sortR ltZ (X.take r ++ Y.take (c - r)) = X.take r ++ Y.take (c - r) := by
        rw [ltZ_eq]
        refine sortK_of_sorted keyZ ?_
        by_cases hC : 0 < r
        · have : Y.take (c - r) = [] := List.eq_nil_of_length_eq_zero (by omega)
          rw [this, List.append_nil]; exact hXs.left
        · have : X.take r = [] := List.eq_nil_of_length_eq_zero (by omega)
          rw [this, List.nil_append]; exact hYs.left
      rw [this]; simp only [List.append_assoc]
    have d3 : ¬ (r < X.length ∧ c - r < Y.length) → P ++ sortR ltZ (X.take r ++ Y.take (c - r)) ++ X.drop r ++ Y.drop (c - r) ++ S = P ++ sortR ltZ (X.take r ++ Y.take (c - r)) ++ sortR ltZ (X.drop r ++ Y.drop (c - r)) ++ S := fun hh => by
      have : sortR ltZ (X.drop r ++ Y.drop (c - r)) = X.drop r ++ Y.drop (c - r) := by
        rw [ltZ_eq]
        refine sortK_of_sorted keyZ ?_
        by_cases hC : r < X.length
        · have : Y.drop (c - r) = [] := List.eq_nil_of_length_eq_zero (by omega)
          rw [this, List.append_nil]; exact hXs.right
        · have : X.drop r = [] := List.eq_nil_of_length_eq_zero (by omega)
          rw [this, List.nil_append]; exact hYs.right
      rw [this]; simp only [List.append_assoc]
    have hfin : P ++ sortR ltZ (X ++ Y) ++ S = P ++ sortR ltZ (X.take r ++ Y.take (c - r)) ++ sortR ltZ (X.drop r ++ Y.drop (c - r)) ++ S := by rw [← hms]; simp only [List.append_assoc]
    rw [hfin]
    simp -implicitDefEqProofs only [RL0, RL1, RL2, RL3, RL4, RL5, RL6, RL7, RL8, RL9, chkW, ↓get_cons', ↓hget_cons', ↓hset_cons', St.gh, isNil, evalA, opTs, LOp.args, Nat.reduceBEq, renS, ren1, ren0, renB, only, sg, gmOf, wrN, buildCells, bsRows, Value.oneCell', setAt, eqCells, eqCell, vI, vB, vS, apartW, Nat.reduceEqDiff, Nat.reduceAdd, Nat.reduceSub, Nat.reduceMul, Nat.reduceLT, Nat.reduceLeDiff, Int.reduceEq, Int.reduceNe, Int.reduceLT, Int.reduceLE, reduceCtorEq, ↓reduceIte, ne_eq, eq_self, and_self, str_eq_iff, Int.toNat_natCast, cV, cR, c_set, List.length_set, e1]
    subst hT
    exact sm_tail n P.length X.length Y.length c r _ _ _ _ hc.symm hx hy (by omega) (by omega) (by omega) (by omega) hl s1 s2 s3 d1 d2 d3
end Go.Proofs.Ex
