import Derived.Test.YthbonnlhoaeflaaExC
set_option linter.unusedVariables false
set_option linter.unusedSimpArgs false
-- DEFS Int.toNat_natCast, cV, cR
namespace Go.Proofs.Ex
open Go.RowKit Go.Lib Go.Eng Go.Proofs Go.IntWalk
set_option maxRecDepth 100000
set_option linter.unusedVariables false
set_option maxHeartbeats 4000000
/-- It ends within bounds. -/
def okE (z : Z) : Prop := z.1 + z.2 ≤ 1099511627776
theorem okE.okZ {z : Z} (h : okE z) : okZ z := by unfold okE at h; unfold Ex.okZ; omega
def lastZ (out : List Z) : Z := out.getD (out.length - 1) default
def step (out : List Z) (z : Z) : List Z :=
  if min (z.1 + z.2) 1099511627776 ≤ z.1 then out
  else if 0 < out.length ∧ z.1 ≤ (lastZ out).1 + (lastZ out).2 then out.set (out.length - 1) ((lastZ out).1, max (min (z.1 + z.2) 1099511627776) ((lastZ out).1 + (lastZ out).2) - (lastZ out).1)
  else out ++ [(z.1, min (z.1 + z.2) 1099511627776 - z.1)]
theorem lastZ_mem {out : List Z} (h : 0 < out.length) : lastZ out ∈ out := by
  unfold lastZ
  rw [List.getD_eq_getElem?_getD, List.getElem?_eq_getElem (show out.length - 1 < out.length by omega)]
  exact List.getElem_mem ..
theorem step_ok {out : List Z} {z : Z} (h : ∀ x ∈ out, okE x) : ∀ x ∈ step out z, okE x := by
  intro x hx
  unfold step at hx
  split at hx
  · exact h x hx
  split at hx
  · rename_i h1 h2
    have hl := h _ (lastZ_mem h2.1)
    rcases List.mem_or_eq_of_mem_set hx with hx | hx
    · exact h x hx
    · subst hx; unfold okE at *; simp only; omega
  · rcases List.mem_append.1 hx with hx | hx
    · exact h x hx
    · rw [List.mem_singleton.1 hx]; unfold okE; simp only; omega
theorem step_len (out : List Z) (z : Z) : (step out z).length ≤ out.length + 1 := by
  unfold step
  repeat' split
  all_goals simp
def normL (l : List Z) : List Z := (sortR ltZ l).foldl step []
theorem cutI_nat (n : Nat) (h : n ≤ 1099511627776) : cutI (n : Int) = n := by unfold cutI; omega
theorem c_snoc (l : List Z) (a b : Nat) : rM cR l ++ [[.v (.complex .f64 (fl a) (fl b))]] = rM cR (l ++ [(a, b)]) := by simp [rM, cR, cV]
theorem norm_spec (l : List Z) (hok : ∀ z ∈ l, okZ z) (hl : l.length ≤ 2 ^ 30) : Eng.Spec Try.prog 11 [] [] [.d (.sl 1 (rM cR l))] [(1000, ⟨0, .arr 1 (rM cR (normL l))⟩)] (.view 1000 0 0 (normL l).length) := by
  refine told_spec mixed f11_told f11_results f11_text rfl (by simp) rfl ?_
  simp only [initS, List.length_cons, List.length_nil, List.range, List.range.loop, List.getD_cons_zero, List.getD_cons_succ, List.cons_append, List.nil_append, Int.toNat_natCast, cV, cR]
  simp -implicitDefEqProofs only [RL0, RL1, RL2, RL3, RL4, RL5, RL6, RL7, RL8, RL9, chkW, ↓get_cons', ↓hget_cons', ↓hset_cons', St.gh, isNil, evalA, opTs, LOp.args, Nat.reduceBEq, renS, ren1, ren0, renB, only, sg, gmOf, wrN, buildCells, bsRows, Value.oneCell', setAt, eqCells, eqCell, vI, vB, vS, apartW, Nat.reduceEqDiff, Nat.reduceAdd, Nat.reduceSub, Nat.reduceMul, Nat.reduceLT, Nat.reduceLeDiff, Int.reduceEq, Int.reduceNe, Int.reduceLT, Int.reduceLE, reduceCtorEq, ↓reduceIte, ne_eq, eq_self, and_self, str_eq_iff]
  refine callL_of (clone_spec l (by omega)) [(1000, 11)] false [] [] ?_ ?_
  · refine CallOk.of ?_ ?_ rfl ?_ rfl rfl rfl rfl ?_ rfl ?_ rfl
    all_goals simp [ML, args1, arg1, args0, lents1, lent1, lent0, lents0, lentB, rowsM, body0, only, sg, injB, apartB, keysOf, cur, resS, ↓get_cons', ↓hget_cons', Value.oneCell', eq_self, and_self, ne_eq, vI, rK_nil, rK_len, rK_take, rM_len, rM_take, Int.toNat_natCast, cV, cR]
  simp -implicitDefEqProofs only [RL0, RL1, RL2, RL3, RL4, RL5, RL6, RL7, RL8, RL9, chkW, ↓get_cons', ↓hget_cons', ↓hset_cons', St.gh, isNil, evalA, opTs, LOp.args, Nat.reduceBEq, renS, ren1, ren0, renB, only, sg, gmOf, wrN, buildCells, bsRows, Value.oneCell', setAt, eqCells, eqCell, vI, vB, vS, apartW, Nat.reduceEqDiff, Nat.reduceAdd, Nat.reduceSub, Nat.reduceMul, Nat.reduceLT, Nat.reduceLeDiff, Int.reduceEq, Int.reduceNe, Int.reduceLT, Int.reduceLE, reduceCtorEq, ↓reduceIte, ne_eq, eq_self, and_self, str_eq_iff, Int.toNat_natCast, cV, cR]
  refine callL_of (sort_spec l hok hl) [(1000, 11)] false [] [] ?_ ?_
  · refine CallOk.of ?_ ?_ rfl ?_ rfl rfl rfl rfl ?_ rfl ?_ rfl
    all_goals simp [ML, args1, arg1, args0, lents1, lent1, lent0, lents0, lentB, rowsM, body0, only, sg, injB, apartB, keysOf, cur, resS, ↓get_cons', ↓hget_cons', Value.oneCell', eq_self, and_self, ne_eq, vI, rK_nil, rK_len, rK_take, rM_len, rM_take, Int.toNat_natCast, cV, cR]
  simp -implicitDefEqProofs only [RL0, RL1, RL2, RL3, RL4, RL5, RL6, RL7, RL8, RL9, chkW, ↓get_cons', ↓hget_cons', ↓hset_cons', St.gh, isNil, evalA, opTs, LOp.args, Nat.reduceBEq, renS, ren1, ren0, renB, only, sg, gmOf, wrN, buildCells, bsRows, Value.oneCell', setAt, eqCells, eqCell, vI, vB, vS, apartW, Nat.reduceEqDiff, Nat.reduceAdd, Nat.reduceSub, Nat.reduceMul, Nat.reduceLT, Nat.reduceLeDiff, Int.reduceEq, Int.reduceNe, Int.reduceLT, Int.reduceLE, reduceCtorEq, ↓reduceIte, ne_eq, eq_self, and_self, str_eq_iff, Int.toNat_natCast, cV, cR]
  have hs : (sortR ltZ l).length = l.length := sortR_len l
  have hm : ∀ a, a ∈ sortR ltZ l → okZ a := fun a ha => hok a ((sortR_perm l).mem_iff.1 ha)
  unfold normL
  generalize hS : sortR ltZ l = s at *
  refine vc_loop (fun x : Nat × List Z => ⟨[(16, .d (.v (.int .i64 x.1))), (3, .view 503 0 0 x.2.length), (14, .view 11 0 0 l.length), (15, .d (.v (.int .i64 l.length)))], [(11, ⟨0, .arr 1 (rM cR s)⟩), (503, ⟨0, .arr 1 (rM cR x.2)⟩)]⟩)
    (fun x => x.1 ≤ l.length ∧ x.2 = (s.take x.1).foldl step [] ∧ (∀ z ∈ x.2, okE z) ∧ x.2.length ≤ x.1) (fun x => l.length - x.1) (0, []) ⟨by omega, rfl, by simp, by simp⟩ (LE.refl _ _) ?_
  rintro ⟨k, out⟩ ⟨g1, g2, g3, g4⟩
  simp only at g1 g2 g3 g4
  have e3 : IntKind.i64.wrap ((k : Int) + 1) = ((k + 1 : Nat) : Int) := by rw [i64_in _ (by omega)]; omega
  by_cases hk : k < l.length
  · have e1 : ((k : Int) < (l.length : Int)) = True := eq_true (by omega)
    have hz : s.getD k default ∈ s := by
      rw [List.getD_eq_getElem?_getD, List.getElem?_eq_getElem (by omega)]
      exact List.getElem_mem ..
    have hstep : (s.take (k + 1)).foldl step [] = step out (s.getD k default) := by
      rw [List.take_succ_eq_append_getElem (by omega), List.foldl_append, ← g2, List.getD_eq_getElem?_getD, List.getElem?_eq_getElem (by omega)]; rfl
    generalize hzz : s.getD k default = z at *
    have hoz := hm z hz
    have hnext : ∀ o, step out z = o → (o.length ≤ k + 1 ∧ ∀ x ∈ o, okE x) := by
      rintro o rfl
      exact ⟨by have := step_len out z; omega, step_ok g3⟩
    obtain ⟨TO, hTO⟩ : ∃ TO : Nat, min (z.1 + z.2) 1099511627776 = TO := ⟨_, rfl⟩
    have eTo : min (((z.1 + z.2 : Nat) : Int)) 1099511627776 = (TO : Int) := by omega
    have hst : step out z = if TO ≤ z.1 then out else if 0 < out.length ∧ z.1 ≤ (lastZ out).1 + (lastZ out).2 then out.set (out.length - 1) ((lastZ out).1, max TO ((lastZ out).1 + (lastZ out).2) - (lastZ out).1) else out ++ [(z.1, TO - z.1)] := by
      unfold step; rw [hTO]
    simp -implicitDefEqProofs only [RL0, RL1, RL2, RL3, RL4, RL5, RL6, RL7, RL8, RL9, chkW, ↓get_cons', ↓hget_cons', ↓hset_cons', St.gh, isNil, evalA, opTs, LOp.args, Nat.reduceBEq, renS, ren1, ren0, renB, only, sg, gmOf, wrN, buildCells, bsRows, Value.oneCell', setAt, eqCells, eqCell, vI, vB, vS, apartW, Nat.reduceEqDiff, Nat.reduceAdd, Nat.reduceSub, Nat.reduceMul, Nat.reduceLT, Nat.reduceLeDiff, Int.reduceEq, Int.reduceNe, Int.reduceLT, Int.reduceLE, reduceCtorEq, ↓reduceIte, ne_eq, eq_self, and_self, str_eq_iff, Int.toNat_natCast, cV, cR, e1, hzz, e3]
    refine ⟨by omega, by omega, ?_⟩
    refine callL_of (at_spec z hoz) [] false [] [] ?_ ?_
    · refine CallOk.of ?_ ?_ rfl ?_ rfl rfl rfl rfl ?_ rfl ?_ rfl
      all_goals simp [ML, args1, arg1, args0, lents1, lent1, lent0, lents0, lentB, rowsM, body0, only, sg, injB, apartB, keysOf, cur, resS, ↓get_cons', ↓hget_cons', Value.oneCell', eq_self, and_self, ne_eq, vI, rK_nil, rK_len, rK_take, rM_len, rM_take, Int.toNat_natCast, cV, cR, eTo, e3]
    simp -implicitDefEqProofs only [RL0, RL1, RL2, RL3, RL4, RL5, RL6, RL7, RL8, RL9, chkW, ↓get_cons', ↓hget_cons', ↓hset_cons', St.gh, isNil, evalA, opTs, LOp.args, Nat.reduceBEq, renS, ren1, ren0, renB, only, sg, gmOf, wrN, buildCells, bsRows, Value.oneCell', setAt, eqCells, eqCell, vI, vB, vS, apartW, Nat.reduceEqDiff, Nat.reduceAdd, Nat.reduceSub, Nat.reduceMul, Nat.reduceLT, Nat.reduceLeDiff, Int.reduceEq, Int.reduceNe, Int.reduceLT, Int.reduceLE, reduceCtorEq, ↓reduceIte, ne_eq, eq_self, and_self, str_eq_iff, Int.toNat_natCast, cV, cR, eTo, e3]
    refine callL_of (end_spec z hoz) [] false [] [] ?_ ?_
    · refine CallOk.of ?_ ?_ rfl ?_ rfl rfl rfl rfl ?_ rfl ?_ rfl
      all_goals simp [ML, args1, arg1, args0, lents1, lent1, lent0, lents0, lentB, rowsM, body0, only, sg, injB, apartB, keysOf, cur, resS, ↓get_cons', ↓hget_cons', Value.oneCell', eq_self, and_self, ne_eq, vI, rK_nil, rK_len, rK_take, rM_len, rM_take, Int.toNat_natCast, cV, cR, eTo, e3]
    simp -implicitDefEqProofs only [RL0, RL1, RL2, RL3, RL4, RL5, RL6, RL7, RL8, RL9, chkW, ↓get_cons', ↓hget_cons', ↓hset_cons', St.gh, isNil, evalA, opTs, LOp.args, Nat.reduceBEq, renS, ren1, ren0, renB, only, sg, gmOf, wrN, buildCells, bsRows, Value.oneCell', setAt, eqCells, eqCell, vI, vB, vS, apartW, Nat.reduceEqDiff, Nat.reduceAdd, Nat.reduceSub, Nat.reduceMul, Nat.reduceLT, Nat.reduceLeDiff, Int.reduceEq, Int.reduceNe, Int.reduceLT, Int.reduceLE, reduceCtorEq, ↓reduceIte, ne_eq, eq_self, and_self, str_eq_iff, Int.toNat_natCast, cV, cR, eTo, e3]
    have fin : ∀ o, step out z = o → ∃ y : Nat × List Z, (y.1 ≤ l.length ∧ y.2 = (s.take y.1).foldl step [] ∧ (∀ z ∈ y.2, okE z) ∧ y.2.length ≤ y.1) ∧ l.length - y.1 < l.length - k ∧
        Eng.LE [] ⟨[(16, .d (.v (.int .i64 (k + 1 : Nat)))), (3, .view 503 0 0 o.length), (14, .view 11 0 0 l.length), (15, .d (.v (.int .i64 l.length)))], [(11, ⟨0, .arr 1 (rM cR s)⟩), (503, ⟨0, .arr 1 (rM cR o)⟩)]⟩
          ⟨[(16, .d (.v (.int .i64 y.1))), (3, .view 503 0 0 y.2.length), (14, .view 11 0 0 l.length), (15, .d (.v (.int .i64 l.length)))], [(11, ⟨0, .arr 1 (rM cR s)⟩), (503, ⟨0, .arr 1 (rM cR y.2)⟩)]⟩ := by
      rintro o rfl
      exact ⟨(k + 1, step out z), ⟨by simp only; omega, hstep.symm, step_ok g3, by have := step_len out z; simp only; omega⟩, by simp only; omega, LE.refl _ _⟩
    have snoc : ¬ TO ≤ z.1 → ¬ (0 < out.length ∧ z.1 ≤ (lastZ out).1 + (lastZ out).2) → step out z = out ++ [(z.1, TO - z.1)] := fun h1 h2 => by rw [hst, if_neg h1, if_neg h2]
    have eSub : ¬ TO ≤ z.1 → IntKind.i64.wrap ((TO : Int) - (z.1 : Int)) = ((TO - z.1 : Nat) : Int) := fun h => by have := hoz.1; rw [i64_in _ (by omega)]; omega
    refine ⟨fun c1 => fin out (by rw [hst, if_pos (by omega)]), fun c1 => ?_⟩
    have c1' : ¬ TO ≤ z.1 := by omega
    have eS := eSub c1'
    have cu1 := cutI_nat z.1 hoz.1
    have cu2 := cutI_nat (TO - z.1) (by omega)
    have hof : Eng.Spec Try.prog 36 [] [] [.d (.v (.int .i64 z.1)), .d (.v (.int .i64 (TO - z.1 : Nat)))] [] (.d (.v (cV (z.1, TO - z.1)))) := by
      have := of_spec z.1 ((TO - z.1 : Nat) : Int); rwa [cu1, cu2] at this
    refine ⟨fun c2 => ?_, fun c2 => ?_⟩
    · have c2' : 0 < out.length := by omega
      have e5 : IntKind.i64.wrap ((out.length : Int) - 1) = ((out.length - 1 : Nat) : Int) := by rw [i64_in _ (by omega)]; omega
      have hL := g3 _ (lastZ_mem c2')
      have hL2 : (lastZ out).1 + (lastZ out).2 ≤ 1099511627776 := hL
      have eL : out.getD (out.length - 1) default = lastZ out := rfl
      simp -implicitDefEqProofs only [RL0, RL1, RL2, RL3, RL4, RL5, RL6, RL7, RL8, RL9, chkW, ↓get_cons', ↓hget_cons', ↓hset_cons', St.gh, isNil, evalA, opTs, LOp.args, Nat.reduceBEq, renS, ren1, ren0, renB, only, sg, gmOf, wrN, buildCells, bsRows, Value.oneCell', setAt, eqCells, eqCell, vI, vB, vS, apartW, Nat.reduceEqDiff, Nat.reduceAdd, Nat.reduceSub, Nat.reduceMul, Nat.reduceLT, Nat.reduceLeDiff, Int.reduceEq, Int.reduceNe, Int.reduceLT, Int.reduceLE, reduceCtorEq, ↓reduceIte, ne_eq, eq_self, and_self, str_eq_iff, Int.toNat_natCast, cV, cR, e5, eL, e3, eS]
      generalize hLL : lastZ out = L at *
      refine ⟨by omega, by omega, by omega, ?_⟩
      refine callL_of (end_spec L hL.okZ) [] false [] [] ?_ ?_
      · refine CallOk.of ?_ ?_ rfl ?_ rfl rfl rfl rfl ?_ rfl ?_ rfl
        all_goals simp [ML, args1, arg1, args0, lents1, lent1, lent0, lents0, lentB, rowsM, body0, only, sg, injB, apartB, keysOf, cur, resS, ↓get_cons', ↓hget_cons', Value.oneCell', eq_self, and_self, ne_eq, vI, rK_nil, rK_len, rK_take, rM_len, rM_take, Int.toNat_natCast, cV, cR, e5, eL, e3, eS]
      simp -implicitDefEqProofs only [RL0, RL1, RL2, RL3, RL4, RL5, RL6, RL7, RL8, RL9, chkW, ↓get_cons', ↓hget_cons', ↓hset_cons', St.gh, isNil, evalA, opTs, LOp.args, Nat.reduceBEq, renS, ren1, ren0, renB, only, sg, gmOf, wrN, buildCells, bsRows, Value.oneCell', setAt, eqCells, eqCell, vI, vB, vS, apartW, Nat.reduceEqDiff, Nat.reduceAdd, Nat.reduceSub, Nat.reduceMul, Nat.reduceLT, Nat.reduceLeDiff, Int.reduceEq, Int.reduceNe, Int.reduceLT, Int.reduceLE, reduceCtorEq, ↓reduceIte, ne_eq, eq_self, and_self, str_eq_iff, Int.toNat_natCast, cV, cR, e5, eL, e3, eS]
      obtain ⟨V, hV⟩ : ∃ V : Nat, max TO (L.1 + L.2) - L.1 = V := ⟨_, rfl⟩
      have eM : IntKind.i64.wrap (max (TO : Int) ((L.1 + L.2 : Nat) : Int) - (L.1 : Int)) = (V : Int) := by rw [i64_in _ (by omega)]; omega
      have hof2 : Eng.Spec Try.prog 36 [] [] [.d (.v (.int .i64 L.1)), .d (.v (.int .i64 V))] [] (.d (.v (cV (L.1, V)))) := by
        have := of_spec L.1 (V : Int); rwa [cutI_nat L.1 (by omega), cutI_nat V (by omega)] at this
      refine ⟨fun c3 => ?_, fun c3 => ?_⟩
      · refine ⟨by omega, by omega, by omega, ?_⟩
        refine callL_of (at_spec L hL.okZ) [] false [] [] ?_ ?_
        · refine CallOk.of ?_ ?_ rfl ?_ rfl rfl rfl rfl ?_ rfl ?_ rfl
          all_goals simp [ML, args1, arg1, args0, lents1, lent1, lent0, lents0, lentB, rowsM, body0, only, sg, injB, apartB, keysOf, cur, resS, ↓get_cons', ↓hget_cons', Value.oneCell', eq_self, and_self, ne_eq, vI, rK_nil, rK_len, rK_take, rM_len, rM_take, Int.toNat_natCast, cV, cR, e5, eL, e3, eM, c_set, hLL]
        simp -implicitDefEqProofs only [RL0, RL1, RL2, RL3, RL4, RL5, RL6, RL7, RL8, RL9, chkW, ↓get_cons', ↓hget_cons', ↓hset_cons', St.gh, isNil, evalA, opTs, LOp.args, Nat.reduceBEq, renS, ren1, ren0, renB, only, sg, gmOf, wrN, buildCells, bsRows, Value.oneCell', setAt, eqCells, eqCell, vI, vB, vS, apartW, Nat.reduceEqDiff, Nat.reduceAdd, Nat.reduceSub, Nat.reduceMul, Nat.reduceLT, Nat.reduceLeDiff, Int.reduceEq, Int.reduceNe, Int.reduceLT, Int.reduceLE, reduceCtorEq, ↓reduceIte, ne_eq, eq_self, and_self, str_eq_iff, Int.toNat_natCast, cV, cR, e5, eL, e3, eM, c_set, hLL]
        refine ⟨by omega, by omega, by omega, ?_⟩
        refine callL_of (end_spec L hL.okZ) [] false [] [] ?_ ?_
        · refine CallOk.of ?_ ?_ rfl ?_ rfl rfl rfl rfl ?_ rfl ?_ rfl
          all_goals simp [ML, args1, arg1, args0, lents1, lent1, lent0, lents0, lentB, rowsM, body0, only, sg, injB, apartB, keysOf, cur, resS, ↓get_cons', ↓hget_cons', Value.oneCell', eq_self, and_self, ne_eq, vI, rK_nil, rK_len, rK_take, rM_len, rM_take, Int.toNat_natCast, cV, cR, e5, eL, e3, eM, c_set, hLL]
        simp -implicitDefEqProofs only [RL0, RL1, RL2, RL3, RL4, RL5, RL6, RL7, RL8, RL9, chkW, ↓get_cons', ↓hget_cons', ↓hset_cons', St.gh, isNil, evalA, opTs, LOp.args, Nat.reduceBEq, renS, ren1, ren0, renB, only, sg, gmOf, wrN, buildCells, bsRows, Value.oneCell', setAt, eqCells, eqCell, vI, vB, vS, apartW, Nat.reduceEqDiff, Nat.reduceAdd, Nat.reduceSub, Nat.reduceMul, Nat.reduceLT, Nat.reduceLeDiff, Int.reduceEq, Int.reduceNe, Int.reduceLT, Int.reduceLE, reduceCtorEq, ↓reduceIte, ne_eq, eq_self, and_self, str_eq_iff, Int.toNat_natCast, cV, cR, e5, eL, e3, eM, c_set, hLL]
        refine callL_of (hof2) [] false [] [] ?_ ?_
        · refine CallOk.of ?_ ?_ rfl ?_ rfl rfl rfl rfl ?_ rfl ?_ rfl
          all_goals simp [ML, args1, arg1, args0, lents1, lent1, lent0, lents0, lentB, rowsM, body0, only, sg, injB, apartB, keysOf, cur, resS, ↓get_cons', ↓hget_cons', Value.oneCell', eq_self, and_self, ne_eq, vI, rK_nil, rK_len, rK_take, rM_len, rM_take, Int.toNat_natCast, cV, cR, e5, eL, e3, eM, c_set, hLL]
        simp -implicitDefEqProofs only [RL0, RL1, RL2, RL3, RL4, RL5, RL6, RL7, RL8, RL9, chkW, ↓get_cons', ↓hget_cons', ↓hset_cons', St.gh, isNil, evalA, opTs, LOp.args, Nat.reduceBEq, renS, ren1, ren0, renB, only, sg, gmOf, wrN, buildCells, bsRows, Value.oneCell', setAt, eqCells, eqCell, vI, vB, vS, apartW, Nat.reduceEqDiff, Nat.reduceAdd, Nat.reduceSub, Nat.reduceMul, Nat.reduceLT, Nat.reduceLeDiff, Int.reduceEq, Int.reduceNe, Int.reduceLT, Int.reduceLE, reduceCtorEq, ↓reduceIte, ne_eq, eq_self, and_self, str_eq_iff, Int.toNat_natCast, cV, cR, e5, eL, e3, eM, c_set, hLL]
        have hs2 := hst
        rw [if_neg c1', if_pos ⟨c2', by omega⟩, hV] at hs2
        have f2 := fin _ hs2
        rw [List.length_set] at f2
        exact ⟨by omega, by omega, by omega, f2⟩
      · refine callL_of (hof) [] false [] [] ?_ ?_
        · refine CallOk.of ?_ ?_ rfl ?_ rfl rfl rfl rfl ?_ rfl ?_ rfl
          all_goals simp [ML, args1, arg1, args0, lents1, lent1, lent0, lents0, lentB, rowsM, body0, only, sg, injB, apartB, keysOf, cur, resS, ↓get_cons', ↓hget_cons', Value.oneCell', eq_self, and_self, ne_eq, vI, rK_nil, rK_len, rK_take, rM_len, rM_take, Int.toNat_natCast, cV, cR, e3, eS, c_snoc]
        simp -implicitDefEqProofs only [RL0, RL1, RL2, RL3, RL4, RL5, RL6, RL7, RL8, RL9, chkW, ↓get_cons', ↓hget_cons', ↓hset_cons', St.gh, isNil, evalA, opTs, LOp.args, Nat.reduceBEq, renS, ren1, ren0, renB, only, sg, gmOf, wrN, buildCells, bsRows, Value.oneCell', setAt, eqCells, eqCell, vI, vB, vS, apartW, Nat.reduceEqDiff, Nat.reduceAdd, Nat.reduceSub, Nat.reduceMul, Nat.reduceLT, Nat.reduceLeDiff, Int.reduceEq, Int.reduceNe, Int.reduceLT, Int.reduceLE, reduceCtorEq, ↓reduceIte, ne_eq, eq_self, and_self, str_eq_iff, Int.toNat_natCast, cV, cR, e3, eS, c_snoc]
        have hs2 := hst
        rw [if_neg c1', if_neg (by omega)] at hs2
        have f2 := fin _ hs2
        rw [List.length_append] at f2
        exact ⟨by omega, by omega, f2⟩
    · simp -implicitDefEqProofs only [RL0, RL1, RL2, RL3, RL4, RL5, RL6, RL7, RL8, RL9, chkW, ↓get_cons', ↓hget_cons', ↓hset_cons', St.gh, isNil, evalA, opTs, LOp.args, Nat.reduceBEq, renS, ren1, ren0, renB, only, sg, gmOf, wrN, buildCells, bsRows, Value.oneCell', setAt, eqCells, eqCell, vI, vB, vS, apartW, Nat.reduceEqDiff, Nat.reduceAdd, Nat.reduceSub, Nat.reduceMul, Nat.reduceLT, Nat.reduceLeDiff, Int.reduceEq, Int.reduceNe, Int.reduceLT, Int.reduceLE, reduceCtorEq, ↓reduceIte, ne_eq, eq_self, and_self, str_eq_iff, Int.toNat_natCast, cV, cR, eS]
      refine callL_of (hof) [] false [] [] ?_ ?_
      · refine CallOk.of ?_ ?_ rfl ?_ rfl rfl rfl rfl ?_ rfl ?_ rfl
        all_goals simp [ML, args1, arg1, args0, lents1, lent1, lent0, lents0, lentB, rowsM, body0, only, sg, injB, apartB, keysOf, cur, resS, ↓get_cons', ↓hget_cons', Value.oneCell', eq_self, and_self, ne_eq, vI, rK_nil, rK_len, rK_take, rM_len, rM_take, Int.toNat_natCast, cV, cR, e3, eS, c_snoc]
      simp -implicitDefEqProofs only [RL0, RL1, RL2, RL3, RL4, RL5, RL6, RL7, RL8, RL9, chkW, ↓get_cons', ↓hget_cons', ↓hset_cons', St.gh, isNil, evalA, opTs, LOp.args, Nat.reduceBEq, renS, ren1, ren0, renB, only, sg, gmOf, wrN, buildCells, bsRows, Value.oneCell', setAt, eqCells, eqCell, vI, vB, vS, apartW, Nat.reduceEqDiff, Nat.reduceAdd, Nat.reduceSub, Nat.reduceMul, Nat.reduceLT, Nat.reduceLeDiff, Int.reduceEq, Int.reduceNe, Int.reduceLT, Int.reduceLE, reduceCtorEq, ↓reduceIte, ne_eq, eq_self, and_self, str_eq_iff, Int.toNat_natCast, cV, cR, e3, eS, c_snoc]
      have hs2 := snoc c1' (by omega)
      have f2 := fin _ hs2
      rw [List.length_append] at f2
      exact ⟨by omega, by omega, f2⟩
  · have hk' : k = l.length := by omega
    subst hk'
    have e1 : ((l.length : Int) < (l.length : Int)) = False := eq_false (by omega)
    rw [List.take_of_length_le (by omega)] at g2
    subst g2
    simp -implicitDefEqProofs only [RL0, RL1, RL2, RL3, RL4, RL5, RL6, RL7, RL8, RL9, chkW, ↓get_cons', ↓hget_cons', ↓hset_cons', St.gh, isNil, evalA, opTs, LOp.args, Nat.reduceBEq, renS, ren1, ren0, renB, only, sg, gmOf, wrN, buildCells, bsRows, Value.oneCell', setAt, eqCells, eqCell, vI, vB, vS, apartW, Nat.reduceEqDiff, Nat.reduceAdd, Nat.reduceSub, Nat.reduceMul, Nat.reduceLT, Nat.reduceLeDiff, Int.reduceEq, Int.reduceNe, Int.reduceLT, Int.reduceLE, reduceCtorEq, ↓reduceIte, ne_eq, eq_self, and_self, str_eq_iff, Int.toNat_natCast, cV, cR, e1]
    refine RetOk.of [(1000, 503)] [] ?_ ?_ rfl ?_ rfl rfl ?_
    all_goals simp [ML, args1, arg1, args0, lents1, lent1, lent0, lents0, lentB, rowsM, body0, only, sg, injB, apartB, keysOf, cur, resS, ↓get_cons', ↓hget_cons', Value.oneCell', eq_self, and_self, ne_eq, vI, rK_nil, Int.toNat_natCast, cV, cR]
end Go.Proofs.Ex
