import Derived.Test.YthbonnlhoaeflaaExW
set_option linter.unusedVariables false
set_option linter.unusedSimpArgs false
-- DEFS Int.toNat_natCast, cV, cR, c_set, List.length_set
namespace Go.Proofs.Ex
open Go.RowKit Go.Lib Go.Eng Go.Proofs Go.IntWalk
set_option maxRecDepth 100000
set_option linter.unusedVariables false
set_option maxHeartbeats 4000000
theorem sm_spec : ∀ (N : Nat) (P X Y S : List Z), X.length + Y.length ≤ N → 0 < X.length → 0 < Y.length → SortedK keyZ X → SortedK keyZ Y → (∀ z ∈ X ++ Y, okZ z) → (P ++ X ++ Y ++ S).length ≤ 2 ^ 40 →
    Eng.Spec Try.prog 61 [1000] [(1000, ⟨0, .arr 1 (rM cR (P ++ X ++ Y ++ S))⟩)]
    [.view 1000 0 0 (P ++ X ++ Y ++ S).length, .d (.v (.int .i64 P.length)), .d (.v (.int .i64 (P.length + X.length : Nat))), .d (.v (.int .i64 (P.length + X.length + Y.length : Nat))), .d (.v (.func (.func 32) #[] #[]))]
    [(1000, ⟨0, .arr 1 (rM cR (P ++ sortR ltZ (X ++ Y) ++ S))⟩)] (.tup [])
  | 0, P, X, Y, S, hN, h1, _, _, _, _, _ => absurd hN (by omega)
  | N + 1, P, X, Y, S, hN, hx, hy, hX, hY, hok, hl => by
    by_cases h1 : X.length = 1
    · obtain ⟨x0, rfl⟩ := List.length_eq_one_iff.1 h1
      have e : P ++ [x0] ++ Y ++ S = P ++ x0 :: (Y ++ S) := by simp
      rw [e] at hl ⊢
      exact smA_spec P x0 Y S hY (hok _ (by simp)) (fun z hz => hok z (List.mem_append_right _ hz)) hl
    by_cases h2 : Y.length = 1
    · obtain ⟨y0, rfl⟩ := List.length_eq_one_iff.1 h2
      have e : P ++ X ++ [y0] ++ S = P ++ X ++ y0 :: S := by simp
      rw [e] at hl ⊢
      exact smB_spec P X y0 S h1 hX (hok _ (by simp)) (fun z hz => hok z (List.mem_append_left _ hz)) hl
    obtain ⟨n, hn⟩ : ∃ n, (P ++ X ++ Y ++ S).length = n := ⟨_, rfl⟩
    have hn2 : n = P.length + X.length + Y.length + S.length := by rw [← hn]; simp; omega
    have w0 : ¬ IntKind.i64.wrap (((P.length + X.length : Nat) : Int) - (P.length : Int)) = 1 := by rw [hn] at hl; rw [i64_in _ (by omega)]; omega
    have w1 : ¬ IntKind.i64.wrap (((P.length + X.length + Y.length : Nat) : Int) - ((P.length + X.length : Nat) : Int)) = 1 := by rw [hn] at hl; rw [i64_in _ (by omega)]; omega
    rw [hn] at hl ⊢
    obtain ⟨f1, f2, f3, f4⟩ := half_facts P.length (P.length + X.length + Y.length) (by omega)
    obtain ⟨c, hc⟩ : ∃ c, (X.length + Y.length) / 2 = c := ⟨_, rfl⟩
    have ec : (P.length + (P.length + X.length + Y.length)) / 2 = P.length + c := by omega
    rw [ec] at f3 f4
    have e1 : IntKind.i64.wrap (((P.length + c : Nat) : Int) + ((P.length + X.length : Nat) : Int)) = ((2 * P.length + c + X.length : Nat) : Int) := by rw [i64_in _ (by omega)]; omega
    have e2 : IntKind.i64.wrap (((2 * P.length + c + X.length : Nat) : Int) - 1) = ((2 * P.length + c + X.length - 1 : Nat) : Int) := by rw [i64_in _ (by omega)]; omega
    refine told_spec mixed f61_told f61_results f61_text rfl (by simp) rfl ?_
    simp only [initS, List.length_cons, List.length_nil, List.range, List.range.loop, List.getD_cons_zero, List.getD_cons_succ, List.cons_append, List.nil_append]
    unfold l61
    generalize hL : (LC.seq l61r36 (LC.seq (LC.block 8 (LC.loop l61r42)) (LC.seq l61r43 (LC.seq (LC.seq l61r44 (LC.cond (LA.t 185) l61r45 LC.skip)) (LC.seq (LC.seq l61r46 (LC.cond (LA.t 199) l61r47 LC.skip)) (LC.seq l61r48 (LC.cond (LA.t 213) l61r49 LC.skip))))))) = LL
    simp -implicitDefEqProofs only [RL0, RL1, RL2, RL3, RL4, RL5, RL6, RL7, RL8, RL9, chkW, ↓get_cons', ↓hget_cons', ↓hset_cons', St.gh, isNil, evalA, opTs, LOp.args, Nat.reduceBEq, renS, ren1, ren0, renB, only, sg, gmOf, wrN, buildCells, bsRows, Value.oneCell', setAt, eqCells, eqCell, vI, vB, vS, apartW, Nat.reduceEqDiff, Nat.reduceAdd, Nat.reduceSub, Nat.reduceMul, Nat.reduceLT, Nat.reduceLeDiff, Int.reduceEq, Int.reduceNe, Int.reduceLT, Int.reduceLE, reduceCtorEq, ↓reduceIte, ne_eq, eq_self, and_self, str_eq_iff, Int.toNat_natCast, cV, cR, c_set, List.length_set]
    refine ⟨fun q => absurd q w0, fun _ => ⟨fun q => absurd q w1, fun _ => ?_⟩⟩
    simp -implicitDefEqProofs only [RL0, RL1, RL2, RL3, RL4, RL5, RL6, RL7, RL8, RL9, chkW, ↓get_cons', ↓hget_cons', ↓hset_cons', St.gh, isNil, evalA, opTs, LOp.args, Nat.reduceBEq, renS, ren1, ren0, renB, only, sg, gmOf, wrN, buildCells, bsRows, Value.oneCell', setAt, eqCells, eqCell, vI, vB, vS, apartW, Nat.reduceEqDiff, Nat.reduceAdd, Nat.reduceSub, Nat.reduceMul, Nat.reduceLT, Nat.reduceLeDiff, Int.reduceEq, Int.reduceNe, Int.reduceLT, Int.reduceLE, reduceCtorEq, ↓reduceIte, ne_eq, eq_self, and_self, str_eq_iff, Int.toNat_natCast, cV, cR, c_set, List.length_set, f1, f2, f3, f4, e1]
    refine ⟨fun hm => ?_, fun hm => ?_⟩
    · have e3 : IntKind.i64.wrap (((2 * P.length + c + X.length : Nat) : Int) - ((P.length + X.length + Y.length : Nat) : Int)) = ((P.length + (c - Y.length) : Nat) : Int) := by rw [i64_in _ (by omega)]; omega
      rw [e3]
      subst hL
      exact sm_loop N (sm_spec N) P X Y S (c - Y.length) c c n hn hl hN (by omega) (by omega) hX hY hok hc rfl (by omega)
    · subst hL
      exact sm_loop N (sm_spec N) P X Y S 0 X.length c n hn hl hN (by omega) (by omega) hX hY hok hc (by omega) (by omega)
end Go.Proofs.Ex
