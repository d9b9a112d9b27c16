import Derived.Test.YthbonnlhoaeflaaMeText
import Derived.Test.YthbonnlhoaeflaaEngRl
import Derived.Test.YthbonnlhoaeflaaEngZ
set_option linter.unusedVariables false
set_option linter.unusedSimpArgs false
-- DEFS Int.toNat_natCast
namespace Go.Proofs.Me
open Go.RowKit Go.Lib Go.Eng Go.Proofs Go.IntWalk
set_option maxRecDepth 100000
set_option maxHeartbeats 2000000
theorem mixed : Try.prog.follows .mixedOrders = true := by kernel_rfl

/-- A promise about a slice, out of one for nil and one for what is not nil. -/
theorem nilcase {P : Program} {f : Nat} {pins : List Nat} {hA hB : List (Nat × Ob)} {sz : Nat} {rows : List (List D)} {res : S} (h1 : rows = [] → Eng.Spec P f pins hA [.d (.v (.slice none 0 0))] hB res) (h2 : Eng.Spec P f pins hA [.d (.sn sz rows)] hB res) :
    Eng.Spec P f pins hA [.d (.sl sz rows)] hB res := by
  intro w ok lv vs In hl hrep
  match vs, hl with
  | [v], _ =>
    have hx := hrep 0 _ v rfl rfl
    cases hx with
    | d _ _ hx =>
      have hnn : ∀ a l c, v = .slice (some a) l c → RepD w ok (.sl sz rows) v → Calls P f [v].toArray w fun e w' => ∃ v ok' lv', e = .returned v ∧ RepS w' ok' lv' res v ∧ OutRel w w' ok ok' lv lv' (hget hA) (hget hB) (· ∈ pins) := by
        rintro a l c rfl hx
        refine h2 w ok lv _ In rfl (fun j s u hs hu => ?_)
        cases j with
        | zero => cases hs; cases hu; exact .d _ _ (.sn _ _ _ _ _ hx)
        | succ j => simp at hs
      cases hx with
      | nil =>
        refine h1 rfl w ok lv _ In rfl (fun j s u hs hu => ?_)
        cases j with
        | zero => cases hs; cases hu; exact .d _ _ (.v _)
        | succ j => simp at hs
      | emp a c => exact hnn _ _ _ rfl (.emp _ _ _)
      | sl => exact hnn _ _ _ rfl (.sl _ _ _ _ _ _ ‹_› ‹_› ‹_› ‹_› ‹_›)

theorem nan_spec (s : ByteArray) : Eng.Spec Try.prog 64 [] [] [.d (.v (.string s))] [] (.d (.v (.bool false))) := by
  refine told_spec mixed f64_told f64_results f64_text rfl (by simp) rfl ?_
  simp only [initS, List.length_cons, List.length_nil, List.range, List.range.loop, List.getD_cons_zero, List.getD_cons_succ, List.cons_append, List.nil_append, Int.toNat_natCast]
  simp -implicitDefEqProofs only [RL0, RL1, RL2, RL3, RL4, RL5, RL6, RL7, RL8, chkW, ↓get_cons', ↓hget_cons', ↓hset_cons', St.gh, isNil, evalA, opTs, LOp.args, Nat.reduceBEq, renS, ren1, ren0, renB, only, sg, gmOf, wrN, buildCells, bsRows, Value.oneCell', setAt, eqCells, eqCell, vI, vB, vS, apartW, Nat.reduceEqDiff, Nat.reduceAdd, Nat.reduceSub, Nat.reduceMul, Nat.reduceLT, Nat.reduceLeDiff, Int.reduceEq, Int.reduceNe, Int.reduceLT, Int.reduceLE, reduceCtorEq, ↓reduceIte, ne_eq, eq_self, and_self, str_eq_iff]
  refine RetOk.of [] [] ?_ ?_ rfl ?_ rfl rfl ?_
  all_goals simp [ML, args1, arg1, args0, lents1, lent1, lent0, lents0, lentB, rowsM, body0, only, sg, injB, apartB, keysOf, cur, resS, ↓get_cons', ↓hget_cons', Value.oneCell', eq_self, and_self, ne_eq, vI, rK_nil, Int.toNat_natCast]
def cmpS (a b : ByteArray) : Int := if sLt a b = true then -1 else if ¬ (sLt a b = true ∨ a = b) then 1 else 0
theorem cmpS_spec (a b : ByteArray) : Eng.Spec Try.prog 53 [] [] [.d (.v (.string a)), .d (.v (.string b))] [] (.d (.v (.int .i64 (cmpS a b)))) := by
  refine told_spec mixed f53_told f53_results f53_text rfl (by simp) rfl ?_
  simp only [initS, List.length_cons, List.length_nil, List.range, List.range.loop, List.getD_cons_zero, List.getD_cons_succ, List.cons_append, List.nil_append, Int.toNat_natCast]
  simp -implicitDefEqProofs only [RL0, RL1, RL2, RL3, RL4, RL5, RL6, RL7, RL8, chkW, ↓get_cons', ↓hget_cons', ↓hset_cons', St.gh, isNil, evalA, opTs, LOp.args, Nat.reduceBEq, renS, ren1, ren0, renB, only, sg, gmOf, wrN, buildCells, bsRows, Value.oneCell', setAt, eqCells, eqCell, vI, vB, vS, apartW, Nat.reduceEqDiff, Nat.reduceAdd, Nat.reduceSub, Nat.reduceMul, Nat.reduceLT, Nat.reduceLeDiff, Int.reduceEq, Int.reduceNe, Int.reduceLT, Int.reduceLE, reduceCtorEq, ↓reduceIte, ne_eq, eq_self, and_self, str_eq_iff]
  refine callL_of (nan_spec a) [] false [] [] ?_ ?_
  · refine CallOk.of ?_ ?_ rfl ?_ rfl rfl rfl rfl ?_ rfl ?_ rfl
    all_goals simp [ML, args1, arg1, args0, lents1, lent1, lent0, lents0, lentB, rowsM, body0, only, sg, injB, apartB, keysOf, cur, resS, ↓get_cons', ↓hget_cons', Value.oneCell', eq_self, and_self, ne_eq, vI, rK_nil, rK_len, rK_take, rM_len, rM_take, Int.toNat_natCast]
  simp -implicitDefEqProofs only [RL0, RL1, RL2, RL3, RL4, RL5, RL6, RL7, RL8, chkW, ↓get_cons', ↓hget_cons', ↓hset_cons', St.gh, isNil, evalA, opTs, LOp.args, Nat.reduceBEq, renS, ren1, ren0, renB, only, sg, gmOf, wrN, buildCells, bsRows, Value.oneCell', setAt, eqCells, eqCell, vI, vB, vS, apartW, Nat.reduceEqDiff, Nat.reduceAdd, Nat.reduceSub, Nat.reduceMul, Nat.reduceLT, Nat.reduceLeDiff, Int.reduceEq, Int.reduceNe, Int.reduceLT, Int.reduceLE, reduceCtorEq, ↓reduceIte, ne_eq, eq_self, and_self, str_eq_iff, Int.toNat_natCast]
  refine callL_of (nan_spec b) [] false [] [] ?_ ?_
  · refine CallOk.of ?_ ?_ rfl ?_ rfl rfl rfl rfl ?_ rfl ?_ rfl
    all_goals simp [ML, args1, arg1, args0, lents1, lent1, lent0, lents0, lentB, rowsM, body0, only, sg, injB, apartB, keysOf, cur, resS, ↓get_cons', ↓hget_cons', Value.oneCell', eq_self, and_self, ne_eq, vI, rK_nil, rK_len, rK_take, rM_len, rM_take, Int.toNat_natCast]
  simp -implicitDefEqProofs only [RL0, RL1, RL2, RL3, RL4, RL5, RL6, RL7, RL8, chkW, ↓get_cons', ↓hget_cons', ↓hset_cons', St.gh, isNil, evalA, opTs, LOp.args, Nat.reduceBEq, renS, ren1, ren0, renB, only, sg, gmOf, wrN, buildCells, bsRows, Value.oneCell', setAt, eqCells, eqCell, vI, vB, vS, apartW, Nat.reduceEqDiff, Nat.reduceAdd, Nat.reduceSub, Nat.reduceMul, Nat.reduceLT, Nat.reduceLeDiff, Int.reduceEq, Int.reduceNe, Int.reduceLT, Int.reduceLE, reduceCtorEq, ↓reduceIte, ne_eq, eq_self, and_self, str_eq_iff, Int.toNat_natCast]
  have hret : ∀ c : Int, cmpS a b = c → RetOk [4] { s := [(4, S.d (D.v (Value.int IntKind.i64 c)))], h := [] } [] [] (S.d (D.v (Value.int IntKind.i64 (cmpS a b)))) := by
    rintro c rfl
    refine RetOk.of [] [] ?_ ?_ rfl ?_ rfl rfl ?_
    all_goals simp [ML, args1, arg1, args0, lents1, lent1, lent0, lents0, lentB, rowsM, body0, only, sg, injB, apartB, keysOf, cur, resS, ↓get_cons', ↓hget_cons', Value.oneCell', eq_self, and_self, ne_eq, vI, rK_nil, Int.toNat_natCast]
  refine ⟨fun h => hret _ (if_pos h), fun h => ?_⟩
  refine ⟨fun h2 => hret _ (by unfold cmpS; rw [if_neg h, if_pos h2]), fun h2 => hret _ (by unfold cmpS; rw [if_neg h, if_neg h2])⟩
theorem nanI_spec (s : Int) : Eng.Spec Try.prog 69 [] [] [.d (.v (.int .i64 s))] [] (.d (.v (.bool false))) := by
  refine told_spec mixed f69_told f69_results f69_text rfl (by simp) rfl ?_
  simp only [initS, List.length_cons, List.length_nil, List.range, List.range.loop, List.getD_cons_zero, List.getD_cons_succ, List.cons_append, List.nil_append, Int.toNat_natCast]
  simp -implicitDefEqProofs only [RL0, RL1, RL2, RL3, RL4, RL5, RL6, RL7, RL8, chkW, ↓get_cons', ↓hget_cons', ↓hset_cons', St.gh, isNil, evalA, opTs, LOp.args, Nat.reduceBEq, renS, ren1, ren0, renB, only, sg, gmOf, wrN, buildCells, bsRows, Value.oneCell', setAt, eqCells, eqCell, vI, vB, vS, apartW, Nat.reduceEqDiff, Nat.reduceAdd, Nat.reduceSub, Nat.reduceMul, Nat.reduceLT, Nat.reduceLeDiff, Int.reduceEq, Int.reduceNe, Int.reduceLT, Int.reduceLE, reduceCtorEq, ↓reduceIte, ne_eq, eq_self, and_self, str_eq_iff]
  refine RetOk.of [] [] ?_ ?_ rfl ?_ rfl rfl ?_
  all_goals simp [ML, args1, arg1, args0, lents1, lent1, lent0, lents0, lentB, rowsM, body0, only, sg, injB, apartB, keysOf, cur, resS, ↓get_cons', ↓hget_cons', Value.oneCell', eq_self, and_self, ne_eq, vI, rK_nil, Int.toNat_natCast]
def cmpI (a b : Int) : Int := if a < b then -1 else if b < a then 1 else 0
theorem cmpI_spec (a b : Int) : Eng.Spec Try.prog 66 [] [] [.d (.v (.int .i64 a)), .d (.v (.int .i64 b))] [] (.d (.v (.int .i64 (cmpI a b)))) := by
  refine told_spec mixed f66_told f66_results f66_text rfl (by simp) rfl ?_
  simp only [initS, List.length_cons, List.length_nil, List.range, List.range.loop, List.getD_cons_zero, List.getD_cons_succ, List.cons_append, List.nil_append, Int.toNat_natCast]
  simp -implicitDefEqProofs only [RL0, RL1, RL2, RL3, RL4, RL5, RL6, RL7, RL8, chkW, ↓get_cons', ↓hget_cons', ↓hset_cons', St.gh, isNil, evalA, opTs, LOp.args, Nat.reduceBEq, renS, ren1, ren0, renB, only, sg, gmOf, wrN, buildCells, bsRows, Value.oneCell', setAt, eqCells, eqCell, vI, vB, vS, apartW, Nat.reduceEqDiff, Nat.reduceAdd, Nat.reduceSub, Nat.reduceMul, Nat.reduceLT, Nat.reduceLeDiff, Int.reduceEq, Int.reduceNe, Int.reduceLT, Int.reduceLE, reduceCtorEq, ↓reduceIte, ne_eq, eq_self, and_self, str_eq_iff]
  refine callL_of (nanI_spec a) [] false [] [] ?_ ?_
  · refine CallOk.of ?_ ?_ rfl ?_ rfl rfl rfl rfl ?_ rfl ?_ rfl
    all_goals simp [ML, args1, arg1, args0, lents1, lent1, lent0, lents0, lentB, rowsM, body0, only, sg, injB, apartB, keysOf, cur, resS, ↓get_cons', ↓hget_cons', Value.oneCell', eq_self, and_self, ne_eq, vI, rK_nil, rK_len, rK_take, rM_len, rM_take, Int.toNat_natCast]
  simp -implicitDefEqProofs only [RL0, RL1, RL2, RL3, RL4, RL5, RL6, RL7, RL8, chkW, ↓get_cons', ↓hget_cons', ↓hset_cons', St.gh, isNil, evalA, opTs, LOp.args, Nat.reduceBEq, renS, ren1, ren0, renB, only, sg, gmOf, wrN, buildCells, bsRows, Value.oneCell', setAt, eqCells, eqCell, vI, vB, vS, apartW, Nat.reduceEqDiff, Nat.reduceAdd, Nat.reduceSub, Nat.reduceMul, Nat.reduceLT, Nat.reduceLeDiff, Int.reduceEq, Int.reduceNe, Int.reduceLT, Int.reduceLE, reduceCtorEq, ↓reduceIte, ne_eq, eq_self, and_self, str_eq_iff, Int.toNat_natCast]
  refine callL_of (nanI_spec b) [] false [] [] ?_ ?_
  · refine CallOk.of ?_ ?_ rfl ?_ rfl rfl rfl rfl ?_ rfl ?_ rfl
    all_goals simp [ML, args1, arg1, args0, lents1, lent1, lent0, lents0, lentB, rowsM, body0, only, sg, injB, apartB, keysOf, cur, resS, ↓get_cons', ↓hget_cons', Value.oneCell', eq_self, and_self, ne_eq, vI, rK_nil, rK_len, rK_take, rM_len, rM_take, Int.toNat_natCast]
  simp -implicitDefEqProofs only [RL0, RL1, RL2, RL3, RL4, RL5, RL6, RL7, RL8, chkW, ↓get_cons', ↓hget_cons', ↓hset_cons', St.gh, isNil, evalA, opTs, LOp.args, Nat.reduceBEq, renS, ren1, ren0, renB, only, sg, gmOf, wrN, buildCells, bsRows, Value.oneCell', setAt, eqCells, eqCell, vI, vB, vS, apartW, Nat.reduceEqDiff, Nat.reduceAdd, Nat.reduceSub, Nat.reduceMul, Nat.reduceLT, Nat.reduceLeDiff, Int.reduceEq, Int.reduceNe, Int.reduceLT, Int.reduceLE, reduceCtorEq, ↓reduceIte, ne_eq, eq_self, and_self, str_eq_iff, Int.toNat_natCast]
  have hret : ∀ c : Int, cmpI a b = c → RetOk [4] { s := [(4, S.d (D.v (Value.int IntKind.i64 c)))], h := [] } [] [] (S.d (D.v (Value.int IntKind.i64 (cmpI a b)))) := by
    rintro c rfl
    refine RetOk.of [] [] ?_ ?_ rfl ?_ rfl rfl ?_
    all_goals simp [ML, args1, arg1, args0, lents1, lent1, lent0, lents0, lentB, rowsM, body0, only, sg, injB, apartB, keysOf, cur, resS, ↓get_cons', ↓hget_cons', Value.oneCell', eq_self, and_self, ne_eq, vI, rK_nil, Int.toNat_natCast]
  refine ⟨fun h => hret _ (if_pos h), fun h => ?_⟩
  refine ⟨fun h2 => hret _ (by unfold cmpI; rw [if_neg h, if_pos h2]), fun h2 => hret _ (by unfold cmpI; rw [if_neg h, if_neg h2])⟩
theorem or_spec (a b : Int) : Eng.Spec Try.prog 65 [] [] [.d (.sl 1 (rK .i64 [a, b]))] [] (.d (.v (.int .i64 (if a ≠ 0 then a else b)))) := by
  refine told_spec mixed f65_told f65_results f65_text rfl (by simp) rfl ?_
  simp only [initS, List.length_cons, List.length_nil, List.range, List.range.loop, List.getD_cons_zero, List.getD_cons_succ, List.cons_append, List.nil_append, Int.toNat_natCast]
  simp -implicitDefEqProofs only [RL0, RL1, RL2, RL3, RL4, RL5, RL6, RL7, RL8, chkW, ↓get_cons', ↓hget_cons', ↓hset_cons', St.gh, isNil, evalA, opTs, LOp.args, Nat.reduceBEq, renS, ren1, ren0, renB, only, sg, gmOf, wrN, buildCells, bsRows, Value.oneCell', setAt, eqCells, eqCell, vI, vB, vS, apartW, Nat.reduceEqDiff, Nat.reduceAdd, Nat.reduceSub, Nat.reduceMul, Nat.reduceLT, Nat.reduceLeDiff, Int.reduceEq, Int.reduceNe, Int.reduceLT, Int.reduceLE, reduceCtorEq, ↓reduceIte, ne_eq, eq_self, and_self, str_eq_iff]
  have hret : ∀ c : Int, (if a ≠ 0 then a else b) = c → RetOk [2] { s := [(2, S.d (D.v (Value.int IntKind.i64 c)))], h := [] } [] [] (S.d (D.v (Value.int IntKind.i64 (if a ≠ 0 then a else b)))) := by
    rintro c rfl
    refine RetOk.of [] [] ?_ ?_ rfl ?_ rfl rfl ?_
    all_goals simp [ML, args1, arg1, args0, lents1, lent1, lent0, lents0, lentB, rowsM, body0, only, sg, injB, apartB, keysOf, cur, resS, ↓get_cons', ↓hget_cons', Value.oneCell', eq_self, and_self, ne_eq, vI, rK_nil, Int.toNat_natCast]
  refine vc_loop (fun i : Nat => ⟨[(8, .d (.v (.int .i64 i))), (3, .d (.v (.int .i64 0))), (6, .d (.sl 1 (rK .i64 [a, b]))), (7, .d (.v (.int .i64 2)))], []⟩)
    (fun i => i ≤ 2 ∧ (1 ≤ i → a = 0) ∧ (2 ≤ i → b = 0)) (fun i => 2 - i) 0 (by omega) (LE.refl _ _) ?_
  rintro i ⟨h1, h2, h3⟩
  simp -implicitDefEqProofs only [RL0, RL1, RL2, RL3, RL4, RL5, RL6, RL7, RL8, chkW, ↓get_cons', ↓hget_cons', ↓hset_cons', St.gh, isNil, evalA, opTs, LOp.args, Nat.reduceBEq, renS, ren1, ren0, renB, only, sg, gmOf, wrN, buildCells, bsRows, Value.oneCell', setAt, eqCells, eqCell, vI, vB, vS, apartW, Nat.reduceEqDiff, Nat.reduceAdd, Nat.reduceSub, Nat.reduceMul, Nat.reduceLT, Nat.reduceLeDiff, Int.reduceEq, Int.reduceNe, Int.reduceLT, Int.reduceLE, reduceCtorEq, ↓reduceIte, ne_eq, eq_self, and_self, str_eq_iff, Int.toNat_natCast]
  simp only [← ne_eq]
  match i, h1, h2, h3 with
  | 0, _, _, _ => exact ⟨fun _ => ⟨by decide, by decide, fun h => hret a (if_pos h), fun h => ⟨1, ⟨by omega, fun _ => by simpa using h, by omega⟩, by omega, LE.refl _ _⟩⟩, fun h => absurd h (by decide)⟩
  | 1, _, h2, _ => exact ⟨fun _ => ⟨by decide, by decide, fun h => hret b (if_neg (fun q => q (h2 (Nat.le_refl _)))), fun h => ⟨2, ⟨by omega, fun _ => h2 (Nat.le_refl _), fun _ => by simpa using h⟩, by omega, LE.refl _ _⟩⟩, fun h => absurd h (by decide)⟩
  | 2, _, h2, h3 => exact ⟨fun h => absurd h (by decide), fun _ => hret 0 (by rw [if_neg (fun q => q (h2 (by omega)))]; exact h3 (Nat.le_refl _))⟩
end Go.Proofs.Me
