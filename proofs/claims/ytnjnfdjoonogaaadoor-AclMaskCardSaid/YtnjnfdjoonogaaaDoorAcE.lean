import Derived.Test.YtnjnfdjoonogaaaDoorAcD
set_option linter.unusedVariables false
set_option linter.unusedSimpArgs false
-- DEFS Int.toNat_natCast, aceR, aceS, sh6, sh3, andI_fold
namespace Go.Proofs.Ac
open Go.RowKit Go.Lib Go.Eng Go.Proofs Go.IntWalk
set_option maxRecDepth 100000
set_option linter.unusedVariables false
set_option maxHeartbeats 2000000
theorem sh6 : (2 ^ min (Int.toNat 6) IntKind.i64.bits : Int) = 64 := by decide
theorem sh3 : (2 ^ min (Int.toNat 3) IntKind.i64.bits : Int) = 8 := by decide
def andI (a b : Int) : Int := IntKind.i64.wrap (BitVec.ofInt IntKind.i64.bits a &&& BitVec.ofInt IntKind.i64.bits b).toNat
theorem andI_fold (a b : Int) : IntKind.i64.wrap ((BitVec.ofInt IntKind.i64.bits a &&& BitVec.ofInt IntKind.i64.bits b).toNat : Int) = andI a b := rfl
def letsP (ask perm : Int) : Bool := decide (andI perm ask = ask)
theorem lets1_spec (ask perm : Int) : Eng.Spec Tryd.prog 17 [1000] [(1000, ⟨0, .box [.d (.v (.int .i64 ask))]⟩)] [.d (.v (.int .i64 perm)), .ptr 1000 0 0 0] [(1000, ⟨0, .box [.d (.v (.int .i64 ask))]⟩)] (.d (.v (.bool (letsP ask perm)))) := by
  refine told_spec mixed f17_told f17_results f17_text rfl (by simp) rfl ?_
  simp only [initS, List.length_cons, List.length_nil, List.range, List.range.loop, List.getD_cons_zero, List.getD_cons_succ, List.cons_append, List.nil_append, Int.toNat_natCast, aceR, aceS, sh6, sh3, andI_fold]
  simp -implicitDefEqProofs only [RL0, RL1, RL2, RL3, RL4, RL5, RL6, RL7, RL8, chkW, ↓get_cons', ↓hget_cons', ↓hset_cons', St.gh, isNil, evalA, opTs, LOp.args, Nat.reduceBEq, renS, ren1, ren0, renB, only, sg, gmOf, wrN, buildCells, bsRows, Value.oneCell', setAt, eqCells, eqCell, vI, vB, vS, apartW, Nat.reduceEqDiff, Nat.reduceAdd, Nat.reduceSub, Nat.reduceMul, Nat.reduceLT, Nat.reduceLeDiff, Int.reduceEq, Int.reduceNe, Int.reduceLT, Int.reduceLE, reduceCtorEq, ↓reduceIte, ne_eq, eq_self, and_self, str_eq_iff]
  refine RetOk.of [(1000, 1000)] [] ?_ ?_ rfl ?_ rfl rfl ?_
  all_goals simp [ML, args1, arg1, args0, lents1, lent1, lent0, lents0, lentB, rowsM, body0, only, sg, injB, apartB, keysOf, cur, resS, ↓get_cons', ↓hget_cons', Value.oneCell', eq_self, and_self, ne_eq, vI, rK_nil, Int.toNat_natCast, aceR, aceS, sh6, sh3, andI_fold, letsP, andI]
theorem index_spec (l : List Int) (x : Int) (hl : l.length ≤ 2 ^ 60) : ∃ r : Int, (0 ≤ r ↔ x ∈ l) ∧ Eng.Spec Tryd.prog 24 [] [] [.d (.sl 1 (rK .i64 l)), .d (.v (.int .i64 x))] [] (.d (.v (.int .i64 r))) := by
  have main : ∀ r : Int, (∀ k : Nat, k < l.length → (∀ j, j < k → l.getD j 0 ≠ x) → l.getD k 0 = x → r = k) → ((∀ j, j < l.length → l.getD j 0 ≠ x) → r = -1) → Eng.Spec Tryd.prog 24 [] [] [.d (.sl 1 (rK .i64 l)), .d (.v (.int .i64 x))] [] (.d (.v (.int .i64 r))) := by
    intro r h1 h2
    refine told_spec mixed f24_told f24_results f24_text rfl (by simp) rfl ?_
    simp only [initS, List.length_cons, List.length_nil, List.range, List.range.loop, List.getD_cons_zero, List.getD_cons_succ, List.cons_append, List.nil_append, Int.toNat_natCast, aceR, aceS, sh6, sh3, andI_fold]
    simp -implicitDefEqProofs only [RL0, RL1, RL2, RL3, RL4, RL5, RL6, RL7, RL8, chkW, ↓get_cons', ↓hget_cons', ↓hset_cons', St.gh, isNil, evalA, opTs, LOp.args, Nat.reduceBEq, renS, ren1, ren0, renB, only, sg, gmOf, wrN, buildCells, bsRows, Value.oneCell', setAt, eqCells, eqCell, vI, vB, vS, apartW, Nat.reduceEqDiff, Nat.reduceAdd, Nat.reduceSub, Nat.reduceMul, Nat.reduceLT, Nat.reduceLeDiff, Int.reduceEq, Int.reduceNe, Int.reduceLT, Int.reduceLE, reduceCtorEq, ↓reduceIte, ne_eq, eq_self, and_self, str_eq_iff]
    have hret : ∀ q : Int, r = q → RetOk [4] { s := [(4, S.d (D.v (Value.int IntKind.i64 q)))], h := [] } [] [] (S.d (D.v (Value.int IntKind.i64 r))) := by
      rintro q rfl
      refine RetOk.of [] [] ?_ ?_ rfl ?_ rfl rfl ?_
      all_goals simp [ML, args1, arg1, args0, lents1, lent1, lent0, lents0, lentB, rowsM, body0, only, sg, injB, apartB, keysOf, cur, resS, ↓get_cons', ↓hget_cons', Value.oneCell', eq_self, and_self, ne_eq, vI, rK_nil, Int.toNat_natCast, aceR, aceS, sh6, sh3, andI_fold]
    refine vc_loop (fun k : Nat => ⟨[(8, .d (.v (.int .i64 k))), (0, .d (.sl 1 (rK .i64 l))), (1, .d (.v (.int .i64 x))), (7, .d (.v (.int .i64 l.length)))], []⟩)
      (fun k => k ≤ l.length ∧ ∀ j, j < k → l.getD j 0 ≠ x) (fun k => l.length - k) 0 ⟨by omega, by omega⟩ (LE.refl _ _) ?_
    rintro k ⟨g1, g2⟩
    have e3 : IntKind.i64.wrap ((k : Int) + 1) = ((k + 1 : Nat) : Int) := by rw [i64_in _ (by omega)]; omega
    simp -implicitDefEqProofs only [RL0, RL1, RL2, RL3, RL4, RL5, RL6, RL7, RL8, chkW, ↓get_cons', ↓hget_cons', ↓hset_cons', St.gh, isNil, evalA, opTs, LOp.args, Nat.reduceBEq, renS, ren1, ren0, renB, only, sg, gmOf, wrN, buildCells, bsRows, Value.oneCell', setAt, eqCells, eqCell, vI, vB, vS, apartW, Nat.reduceEqDiff, Nat.reduceAdd, Nat.reduceSub, Nat.reduceMul, Nat.reduceLT, Nat.reduceLeDiff, Int.reduceEq, Int.reduceNe, Int.reduceLT, Int.reduceLE, reduceCtorEq, ↓reduceIte, ne_eq, eq_self, and_self, str_eq_iff, Int.toNat_natCast, aceR, aceS, sh6, sh3, andI_fold, e3]
    refine ⟨fun h => ⟨by omega, by omega, fun hx => hret _ (h1 k (by omega) g2 hx.symm), fun hx => ⟨k + 1, ⟨by omega, fun j hj => ?_⟩, by omega, LE.refl _ _⟩⟩, fun h => hret _ (h2 fun j hj => g2 j (by omega))⟩
    by_cases e : j = k
    · subst e; exact fun q => hx q.symm
    · exact g2 j (by omega)
  by_cases h : ∃ k, k < l.length ∧ (∀ j, j < k → l.getD j 0 ≠ x) ∧ l.getD k 0 = x
  · obtain ⟨k, hk, h1, h2⟩ := h
    have hmem : x ∈ l := by
      rw [← h2, List.getD_eq_getElem?_getD, List.getElem?_eq_getElem hk]
      exact List.getElem_mem ..
    refine ⟨k, ⟨fun _ => hmem, fun _ => by omega⟩, main k (fun k' hk' g1 g2 => ?_) (fun g => absurd h2 (g k hk))⟩
    rcases Nat.lt_trichotomy k k' with e | e | e
    · exact absurd h2 (g1 k e)
    · rw [e]
    · exact absurd g2 (h1 k' e)
  · have hno : ∀ n j, j ≤ n → j < l.length → l.getD j 0 ≠ x := by
      intro n
      induction n with
      | zero =>
        intro j h1 h2 h3
        exact h ⟨j, h2, fun i hi => absurd hi (by omega), h3⟩
      | succ n ih =>
        intro j h1 h2 h3
        exact h ⟨j, h2, fun i hi => ih i (by omega) (by omega), h3⟩
    have hno' : ∀ j, j < l.length → l.getD j 0 ≠ x := fun j hj => hno j j (Nat.le_refl _) hj
    refine ⟨-1, ⟨fun q => absurd q (by omega), fun q => ?_⟩, main (-1) (fun k hk _ g => absurd g (hno' k hk)) (fun _ => rfl)⟩
    obtain ⟨j, hj, e⟩ := List.getElem_of_mem q
    refine absurd ?_ (hno' j hj)
    rw [List.getD_eq_getElem?_getD, List.getElem?_eq_getElem hj]
    exact e
theorem contains_spec (l : List Int) (x : Int) (hl : l.length ≤ 2 ^ 60) : Eng.Spec Tryd.prog 18 [] [] [.d (.sl 1 (rK .i64 l)), .d (.v (.int .i64 x))] [] (.d (.v (.bool (decide (x ∈ l))))) := by
  obtain ⟨r, h1, h2⟩ := index_spec l x hl
  refine told_spec mixed f18_told f18_results f18_text rfl (by simp) rfl ?_
  simp only [initS, List.length_cons, List.length_nil, List.range, List.range.loop, List.getD_cons_zero, List.getD_cons_succ, List.cons_append, List.nil_append, Int.toNat_natCast, aceR, aceS, sh6, sh3, andI_fold]
  simp -implicitDefEqProofs only [RL0, RL1, RL2, RL3, RL4, RL5, RL6, RL7, RL8, chkW, ↓get_cons', ↓hget_cons', ↓hset_cons', St.gh, isNil, evalA, opTs, LOp.args, Nat.reduceBEq, renS, ren1, ren0, renB, only, sg, gmOf, wrN, buildCells, bsRows, Value.oneCell', setAt, eqCells, eqCell, vI, vB, vS, apartW, Nat.reduceEqDiff, Nat.reduceAdd, Nat.reduceSub, Nat.reduceMul, Nat.reduceLT, Nat.reduceLeDiff, Int.reduceEq, Int.reduceNe, Int.reduceLT, Int.reduceLE, reduceCtorEq, ↓reduceIte, ne_eq, eq_self, and_self, str_eq_iff]
  refine callL_of (h2) [] false [] [] ?_ ?_
  · refine CallOk.of ?_ ?_ rfl ?_ rfl rfl rfl rfl ?_ rfl ?_ rfl
    all_goals simp [ML, args1, arg1, args0, lents1, lent1, lent0, lents0, lentB, rowsM, body0, only, sg, injB, apartB, keysOf, cur, resS, ↓get_cons', ↓hget_cons', Value.oneCell', eq_self, and_self, ne_eq, vI, rK_nil, rK_len, rK_take, rM_len, rM_take, Int.toNat_natCast, aceR, aceS, sh6, sh3, andI_fold]
  simp -implicitDefEqProofs only [RL0, RL1, RL2, RL3, RL4, RL5, RL6, RL7, RL8, chkW, ↓get_cons', ↓hget_cons', ↓hset_cons', St.gh, isNil, evalA, opTs, LOp.args, Nat.reduceBEq, renS, ren1, ren0, renB, only, sg, gmOf, wrN, buildCells, bsRows, Value.oneCell', setAt, eqCells, eqCell, vI, vB, vS, apartW, Nat.reduceEqDiff, Nat.reduceAdd, Nat.reduceSub, Nat.reduceMul, Nat.reduceLT, Nat.reduceLeDiff, Int.reduceEq, Int.reduceNe, Int.reduceLT, Int.reduceLE, reduceCtorEq, ↓reduceIte, ne_eq, eq_self, and_self, str_eq_iff, Int.toNat_natCast, aceR, aceS, sh6, sh3, andI_fold]
  refine RetOk.of [] [] ?_ ?_ rfl ?_ rfl rfl ?_
  all_goals simp [ML, args1, arg1, args0, lents1, lent1, lent0, lents0, lentB, rowsM, body0, only, sg, injB, apartB, keysOf, cur, resS, ↓get_cons', ↓hget_cons', Value.oneCell', eq_self, and_self, ne_eq, vI, rK_nil, Int.toNat_natCast, aceR, aceS, sh6, sh3, andI_fold, ← h1]
/-- What is let behind entry l. -/
def scan (who ask mask mode : Int) (gs : List Int) : List Ac → Bool → Bool → Bool
  | [], any, good => if any = true then good else letsP ask mode
  | a :: r, any, good => if a.1 = 1 ∧ a.2.1 = who then letsP ask (andI a.2.2 mask) else if a.1 = 2 ∧ a.2.1 ∈ gs then scan who ask mask mode gs r true (good || letsP ask (andI a.2.2 mask)) else scan who ask mask mode gs r any good
def maskOf (l : List Ac) : Int := if l.length = 0 then 7 else (l.getD (l.length - 1) default).2.2
def letsF (l : List Ac) (mode uid gid who : Int) (gs : List Int) (ask : Int) : Bool :=
  if ¬ mayA l ∨ ask < 0 ∨ 7 < ask then false else if who = 0 then true else if who = uid then letsP ask (mode.fdiv 64)
  else scan who ask (maskOf l) mode gs l (decide (gid ∈ gs)) (decide (gid ∈ gs) && letsP ask (andI (mode.fdiv 8) (maskOf l)))
theorem lets_spec (l : List Ac) (mode uid gid who : Int) (gs : List Int) (ask : Int) (hl : l.length ≤ 5864062014634) (hg : gs.length ≤ 2 ^ 60) :
    Eng.Spec Tryd.prog 10 [] [] [.d (.sl 3 (rM aceR l)), .d (.v (.int .i64 mode)), .d (.v (.int .i64 uid)), .d (.v (.int .i64 gid)), .d (.v (.int .i64 who)), .d (.sl 1 (rK .i64 gs)), .d (.v (.int .i64 ask))] [] (.d (.v (.bool (letsF l mode uid gid who gs ask)))) := by
  refine told_spec mixed f10_told f10_results f10_text rfl (by simp) rfl ?_
  simp only [initS, List.length_cons, List.length_nil, List.range, List.range.loop, List.getD_cons_zero, List.getD_cons_succ, List.cons_append, List.nil_append, Int.toNat_natCast, aceR, aceS, sh6, sh3, andI_fold]
  simp -implicitDefEqProofs only [RL0, RL1, RL2, RL3, RL4, RL5, RL6, RL7, RL8, chkW, ↓get_cons', ↓hget_cons', ↓hset_cons', St.gh, isNil, evalA, opTs, LOp.args, Nat.reduceBEq, renS, ren1, ren0, renB, only, sg, gmOf, wrN, buildCells, bsRows, Value.oneCell', setAt, eqCells, eqCell, vI, vB, vS, apartW, Nat.reduceEqDiff, Nat.reduceAdd, Nat.reduceSub, Nat.reduceMul, Nat.reduceLT, Nat.reduceLeDiff, Int.reduceEq, Int.reduceNe, Int.reduceLT, Int.reduceLE, reduceCtorEq, ↓reduceIte, ne_eq, eq_self, and_self, str_eq_iff]
  refine callL_of (mayacl_spec l hl) [] false [] [] ?_ ?_
  · refine CallOk.of ?_ ?_ rfl ?_ rfl rfl rfl rfl ?_ rfl ?_ rfl
    all_goals simp [ML, args1, arg1, args0, lents1, lent1, lent0, lents0, lentB, rowsM, body0, only, sg, injB, apartB, keysOf, cur, resS, ↓get_cons', ↓hget_cons', Value.oneCell', eq_self, and_self, ne_eq, vI, rK_nil, rK_len, rK_take, rM_len, rM_take, Int.toNat_natCast, aceR, aceS, sh6, sh3, andI_fold]
  simp -implicitDefEqProofs only [RL0, RL1, RL2, RL3, RL4, RL5, RL6, RL7, RL8, chkW, ↓get_cons', ↓hget_cons', ↓hset_cons', St.gh, isNil, evalA, opTs, LOp.args, Nat.reduceBEq, renS, ren1, ren0, renB, only, sg, gmOf, wrN, buildCells, bsRows, Value.oneCell', setAt, eqCells, eqCell, vI, vB, vS, apartW, Nat.reduceEqDiff, Nat.reduceAdd, Nat.reduceSub, Nat.reduceMul, Nat.reduceLT, Nat.reduceLeDiff, Int.reduceEq, Int.reduceNe, Int.reduceLT, Int.reduceLE, reduceCtorEq, ↓reduceIte, ne_eq, eq_self, and_self, str_eq_iff, Int.toNat_natCast, aceR, aceS, sh6, sh3, andI_fold]
  have hret : ∀ q : Bool, letsF l mode uid gid who gs ask = q → RetOk [14] { s := [(14, S.d (D.v (Value.bool q)))], h := [] } [] [] (S.d (D.v (Value.bool (letsF l mode uid gid who gs ask)))) := by
    rintro q rfl
    refine RetOk.of [] [] ?_ ?_ rfl ?_ rfl rfl ?_
    all_goals simp [ML, args1, arg1, args0, lents1, lent1, lent0, lents0, lentB, rowsM, body0, only, sg, injB, apartB, keysOf, cur, resS, ↓get_cons', ↓hget_cons', Value.oneCell', eq_self, and_self, ne_eq, vI, rK_nil, Int.toNat_natCast, aceR, aceS, sh6, sh3, andI_fold]
  have hbad : (¬ mayA l ∨ ask < 0 ∨ 7 < ask) → RetOk [14] { s := [(14, S.d (D.v (Value.bool false)))], h := [] } [] [] (S.d (D.v (Value.bool (letsF l mode uid gid who gs ask)))) := fun h => hret _ (by unfold letsF; rw [if_pos h])
  have hcal : callable Tryd.prog 17 = true := by kernel_rfl
  refine ⟨fun h1 => ⟨fun h2 => ⟨fun h3 => hbad (by omega), fun h3 => ?_⟩, fun h2 => hbad (by omega)⟩, fun h1 => hbad (.inl h1)⟩
  have h1' : mayA l := Decidable.not_not.1 h1
  have hg' : ¬ (¬ mayA l ∨ ask < 0 ∨ 7 < ask) := by rintro (q | q | q); exact h1 q; exact h2 q; exact h3 q
  have hF : letsF l mode uid gid who gs ask = if who = 0 then true else if who = uid then letsP ask (mode.fdiv 64) else scan who ask (maskOf l) mode gs l (decide (gid ∈ gs)) (decide (gid ∈ gs) && letsP ask (andI (mode.fdiv 8) (maskOf l))) := by
    unfold letsF; rw [if_neg hg']
  refine ⟨fun h0 => ?_, fun h0 => ?_⟩
  · have e2 : IntKind.i64.wrap ((l.length : Int) - 1) = ((l.length - 1 : Nat) : Int) := by rw [i64_in _ (by omega)]; omega
    have hm : maskOf l = (l.getD (l.length - 1) default).2.2 := by unfold maskOf; rw [if_neg (by omega)]
    simp only [e2, Int.toNat_natCast]
    generalize (l.getD (l.length - 1) default).2.2 = mk at *
    refine ⟨by omega, by omega, ?_⟩
    refine ⟨fun hw => hret _ (by rw [hF, if_pos hw]), fun hw => ⟨fun hu => ⟨hcal, ?_⟩, fun hu => ?_⟩⟩
    · refine callL_of (lets1_spec ask (mode.fdiv 64)) [(1000, 13)] false [] [] ?_ ?_
      · refine CallOk.of ?_ ?_ rfl ?_ rfl rfl rfl rfl ?_ rfl ?_ rfl
        all_goals simp [ML, args1, arg1, args0, lents1, lent1, lent0, lents0, lentB, rowsM, body0, only, sg, injB, apartB, keysOf, cur, resS, ↓get_cons', ↓hget_cons', Value.oneCell', eq_self, and_self, ne_eq, vI, rK_nil, rK_len, rK_take, rM_len, rM_take, Int.toNat_natCast, aceR, aceS, sh6, sh3, andI_fold]
      simp -implicitDefEqProofs only [RL0, RL1, RL2, RL3, RL4, RL5, RL6, RL7, RL8, chkW, ↓get_cons', ↓hget_cons', ↓hset_cons', St.gh, isNil, evalA, opTs, LOp.args, Nat.reduceBEq, renS, ren1, ren0, renB, only, sg, gmOf, wrN, buildCells, bsRows, Value.oneCell', setAt, eqCells, eqCell, vI, vB, vS, apartW, Nat.reduceEqDiff, Nat.reduceAdd, Nat.reduceSub, Nat.reduceMul, Nat.reduceLT, Nat.reduceLeDiff, Int.reduceEq, Int.reduceNe, Int.reduceLT, Int.reduceLE, reduceCtorEq, ↓reduceIte, ne_eq, eq_self, and_self, str_eq_iff, Int.toNat_natCast, aceR, aceS, sh6, sh3, andI_fold]
      refine hret _ ?_
      rw [hF, if_neg hw, if_pos hu]
    rw [if_neg hw, if_neg hu, hm] at hF
    have s1 := contains_spec gs gid hg
    generalize decide (gid ∈ gs) = gb at *
    cases gb
    · refine callL_of (s1) [] false [] [] ?_ ?_
      · refine CallOk.of ?_ ?_ rfl ?_ rfl rfl rfl rfl ?_ rfl ?_ rfl
        all_goals simp [ML, args1, arg1, args0, lents1, lent1, lent0, lents0, lentB, rowsM, body0, only, sg, injB, apartB, keysOf, cur, resS, ↓get_cons', ↓hget_cons', Value.oneCell', eq_self, and_self, ne_eq, vI, rK_nil, rK_len, rK_take, rM_len, rM_take, Int.toNat_natCast, aceR, aceS, sh6, sh3, andI_fold]
      simp -implicitDefEqProofs only [RL0, RL1, RL2, RL3, RL4, RL5, RL6, RL7, RL8, chkW, ↓get_cons', ↓hget_cons', ↓hset_cons', St.gh, isNil, evalA, opTs, LOp.args, Nat.reduceBEq, renS, ren1, ren0, renB, only, sg, gmOf, wrN, buildCells, bsRows, Value.oneCell', setAt, eqCells, eqCell, vI, vB, vS, apartW, Nat.reduceEqDiff, Nat.reduceAdd, Nat.reduceSub, Nat.reduceMul, Nat.reduceLT, Nat.reduceLeDiff, Int.reduceEq, Int.reduceNe, Int.reduceLT, Int.reduceLE, reduceCtorEq, ↓reduceIte, ne_eq, eq_self, and_self, str_eq_iff, Int.toNat_natCast, aceR, aceS, sh6, sh3, andI_fold]
      rw [Bool.false_and] at hF
      refine vc_loop (fun x : Nat × Bool × Bool => ⟨[(15, .d (.v (.int .i64 mk))), (17, .clo 17 [.ptr 13 0 0 0]), (68, .d (.v (.int .i64 x.1))), (19, .d (.v (.bool x.2.2))), (5, .d (.sl 1 (rK .i64 gs))), (4, .d (.v (.int .i64 who))), (66, .d (.sl 3 (rM aceR l))), (1, .d (.v (.int .i64 mode))), (18, .d (.v (.bool x.2.1))), (67, .d (.v (.int .i64 l.length)))], [(13, ⟨0, .box [.d (.v (.int .i64 ask))]⟩)]⟩)
        (fun x => x.1 ≤ l.length ∧ scan who ask mk mode gs (l.drop x.1) x.2.1 x.2.2 = letsF l mode uid gid who gs ask) (fun x => l.length - x.1) (0, false, false) ⟨by omega, hF.symm⟩ (LE.refl _ _) ?_
      rintro ⟨k, any, good⟩ ⟨g1, g2⟩
      simp only at g1 g2
      have e3 : IntKind.i64.wrap ((k : Int) + 1) = ((k + 1 : Nat) : Int) := by rw [i64_in _ (by omega)]; omega
      by_cases hk : k < l.length
      · have e1 : ((k : Int) < (l.length : Int)) = True := eq_true (by omega)
        have ha : l.getD k default = l[k] := by rw [List.getD_eq_getElem?_getD, List.getElem?_eq_getElem hk]; rfl
        rw [List.drop_eq_getElem_cons hk, ← ha, scan] at g2
        generalize hA : l.getD k default = a at g2
        by_cases q1 : a.1 = 1 ∧ a.2.1 = who
        · rw [if_pos q1] at g2
          have c1 : (a.1 = 1) = True := eq_true q1.1
          have c2 : (a.2.1 = who) = True := eq_true q1.2
          simp -implicitDefEqProofs only [RL0, RL1, RL2, RL3, RL4, RL5, RL6, RL7, RL8, chkW, ↓get_cons', ↓hget_cons', ↓hset_cons', St.gh, isNil, evalA, opTs, LOp.args, Nat.reduceBEq, renS, ren1, ren0, renB, only, sg, gmOf, wrN, buildCells, bsRows, Value.oneCell', setAt, eqCells, eqCell, vI, vB, vS, apartW, Nat.reduceEqDiff, Nat.reduceAdd, Nat.reduceSub, Nat.reduceMul, Nat.reduceLT, Nat.reduceLeDiff, Int.reduceEq, Int.reduceNe, Int.reduceLT, Int.reduceLE, reduceCtorEq, ↓reduceIte, ne_eq, eq_self, and_self, str_eq_iff, Int.toNat_natCast, aceR, aceS, sh6, sh3, andI_fold, e1, e3, hA, c1, c2]
          refine ⟨by omega, hcal, ?_⟩
          refine callL_of (lets1_spec ask (andI a.2.2 mk)) [(1000, 13)] false [] [] ?_ ?_
          · refine CallOk.of ?_ ?_ rfl ?_ rfl rfl rfl rfl ?_ rfl ?_ rfl
            all_goals simp [ML, args1, arg1, args0, lents1, lent1, lent0, lents0, lentB, rowsM, body0, only, sg, injB, apartB, keysOf, cur, resS, ↓get_cons', ↓hget_cons', Value.oneCell', eq_self, and_self, ne_eq, vI, rK_nil, rK_len, rK_take, rM_len, rM_take, Int.toNat_natCast, aceR, aceS, sh6, sh3, andI_fold]
          simp -implicitDefEqProofs only [RL0, RL1, RL2, RL3, RL4, RL5, RL6, RL7, RL8, chkW, ↓get_cons', ↓hget_cons', ↓hset_cons', St.gh, isNil, evalA, opTs, LOp.args, Nat.reduceBEq, renS, ren1, ren0, renB, only, sg, gmOf, wrN, buildCells, bsRows, Value.oneCell', setAt, eqCells, eqCell, vI, vB, vS, apartW, Nat.reduceEqDiff, Nat.reduceAdd, Nat.reduceSub, Nat.reduceMul, Nat.reduceLT, Nat.reduceLeDiff, Int.reduceEq, Int.reduceNe, Int.reduceLT, Int.reduceLE, reduceCtorEq, ↓reduceIte, ne_eq, eq_self, and_self, str_eq_iff, Int.toNat_natCast, aceR, aceS, sh6, sh3, andI_fold]
          exact hret _ g2.symm
        · rw [if_neg q1] at g2
          by_cases q2 : a.1 = 2
          · have c1 : (a.1 = 1) = False := eq_false (by omega)
            have c2 : (a.1 = 2) = True := eq_true q2
            have c3 : ((2 : Int) = 1) = False := by decide
            have s2 := contains_spec gs a.2.1 hg
            simp -implicitDefEqProofs only [RL0, RL1, RL2, RL3, RL4, RL5, RL6, RL7, RL8, chkW, ↓get_cons', ↓hget_cons', ↓hset_cons', St.gh, isNil, evalA, opTs, LOp.args, Nat.reduceBEq, renS, ren1, ren0, renB, only, sg, gmOf, wrN, buildCells, bsRows, Value.oneCell', setAt, eqCells, eqCell, vI, vB, vS, apartW, Nat.reduceEqDiff, Nat.reduceAdd, Nat.reduceSub, Nat.reduceMul, Nat.reduceLT, Nat.reduceLeDiff, Int.reduceEq, Int.reduceNe, Int.reduceLT, Int.reduceLE, reduceCtorEq, ↓reduceIte, ne_eq, eq_self, and_self, str_eq_iff, Int.toNat_natCast, aceR, aceS, sh6, sh3, andI_fold, e1, e3, hA, c1, c2]
            refine ⟨by omega, ?_⟩
            by_cases hgb : a.2.1 ∈ gs
            · rw [decide_eq_true hgb] at s2
              rw [if_pos ⟨q2, hgb⟩] at g2
              refine callL_of (s2) [] false [] [] ?_ ?_
              · refine CallOk.of ?_ ?_ rfl ?_ rfl rfl rfl rfl ?_ rfl ?_ rfl
                all_goals simp [ML, args1, arg1, args0, lents1, lent1, lent0, lents0, lentB, rowsM, body0, only, sg, injB, apartB, keysOf, cur, resS, ↓get_cons', ↓hget_cons', Value.oneCell', eq_self, and_self, ne_eq, vI, rK_nil, rK_len, rK_take, rM_len, rM_take, Int.toNat_natCast, aceR, aceS, sh6, sh3, andI_fold, e3, hA]
              simp -implicitDefEqProofs only [RL0, RL1, RL2, RL3, RL4, RL5, RL6, RL7, RL8, chkW, ↓get_cons', ↓hget_cons', ↓hset_cons', St.gh, isNil, evalA, opTs, LOp.args, Nat.reduceBEq, renS, ren1, ren0, renB, only, sg, gmOf, wrN, buildCells, bsRows, Value.oneCell', setAt, eqCells, eqCell, vI, vB, vS, apartW, Nat.reduceEqDiff, Nat.reduceAdd, Nat.reduceSub, Nat.reduceMul, Nat.reduceLT, Nat.reduceLeDiff, Int.reduceEq, Int.reduceNe, Int.reduceLT, Int.reduceLE, reduceCtorEq, ↓reduceIte, ne_eq, eq_self, and_self, str_eq_iff, Int.toNat_natCast, aceR, aceS, sh6, sh3, andI_fold, e3, hA]
              cases good
              · simp -implicitDefEqProofs only [RL0, RL1, RL2, RL3, RL4, RL5, RL6, RL7, RL8, chkW, ↓get_cons', ↓hget_cons', ↓hset_cons', St.gh, isNil, evalA, opTs, LOp.args, Nat.reduceBEq, renS, ren1, ren0, renB, only, sg, gmOf, wrN, buildCells, bsRows, Value.oneCell', setAt, eqCells, eqCell, vI, vB, vS, apartW, Nat.reduceEqDiff, Nat.reduceAdd, Nat.reduceSub, Nat.reduceMul, Nat.reduceLT, Nat.reduceLeDiff, Int.reduceEq, Int.reduceNe, Int.reduceLT, Int.reduceLE, reduceCtorEq, ↓reduceIte, ne_eq, eq_self, and_self, str_eq_iff, Int.toNat_natCast, aceR, aceS, sh6, sh3, andI_fold]
                refine ⟨hcal, ?_⟩
                refine callL_of (lets1_spec ask (andI a.2.2 mk)) [(1000, 13)] false [] [] ?_ ?_
                · refine CallOk.of ?_ ?_ rfl ?_ rfl rfl rfl rfl ?_ rfl ?_ rfl
                  all_goals simp [ML, args1, arg1, args0, lents1, lent1, lent0, lents0, lentB, rowsM, body0, only, sg, injB, apartB, keysOf, cur, resS, ↓get_cons', ↓hget_cons', Value.oneCell', eq_self, and_self, ne_eq, vI, rK_nil, rK_len, rK_take, rM_len, rM_take, Int.toNat_natCast, aceR, aceS, sh6, sh3, andI_fold, e3]
                simp -implicitDefEqProofs only [RL0, RL1, RL2, RL3, RL4, RL5, RL6, RL7, RL8, chkW, ↓get_cons', ↓hget_cons', ↓hset_cons', St.gh, isNil, evalA, opTs, LOp.args, Nat.reduceBEq, renS, ren1, ren0, renB, only, sg, gmOf, wrN, buildCells, bsRows, Value.oneCell', setAt, eqCells, eqCell, vI, vB, vS, apartW, Nat.reduceEqDiff, Nat.reduceAdd, Nat.reduceSub, Nat.reduceMul, Nat.reduceLT, Nat.reduceLeDiff, Int.reduceEq, Int.reduceNe, Int.reduceLT, Int.reduceLE, reduceCtorEq, ↓reduceIte, ne_eq, eq_self, and_self, str_eq_iff, Int.toNat_natCast, aceR, aceS, sh6, sh3, andI_fold, e3]
                exact ⟨(k + 1, true, _), ⟨by simp only; omega, g2⟩, by simp only; omega, LE.refl _ _⟩
              · simp -implicitDefEqProofs only [RL0, RL1, RL2, RL3, RL4, RL5, RL6, RL7, RL8, chkW, ↓get_cons', ↓hget_cons', ↓hset_cons', St.gh, isNil, evalA, opTs, LOp.args, Nat.reduceBEq, renS, ren1, ren0, renB, only, sg, gmOf, wrN, buildCells, bsRows, Value.oneCell', setAt, eqCells, eqCell, vI, vB, vS, apartW, Nat.reduceEqDiff, Nat.reduceAdd, Nat.reduceSub, Nat.reduceMul, Nat.reduceLT, Nat.reduceLeDiff, Int.reduceEq, Int.reduceNe, Int.reduceLT, Int.reduceLE, reduceCtorEq, ↓reduceIte, ne_eq, eq_self, and_self, str_eq_iff, Int.toNat_natCast, aceR, aceS, sh6, sh3, andI_fold, e3]
                exact ⟨(k + 1, true, true), ⟨by simp only; omega, g2⟩, by simp only; omega, LE.refl _ _⟩
            · rw [decide_eq_false hgb] at s2
              rw [if_neg (fun q => hgb q.2)] at g2
              refine callL_of (s2) [] false [] [] ?_ ?_
              · refine CallOk.of ?_ ?_ rfl ?_ rfl rfl rfl rfl ?_ rfl ?_ rfl
                all_goals simp [ML, args1, arg1, args0, lents1, lent1, lent0, lents0, lentB, rowsM, body0, only, sg, injB, apartB, keysOf, cur, resS, ↓get_cons', ↓hget_cons', Value.oneCell', eq_self, and_self, ne_eq, vI, rK_nil, rK_len, rK_take, rM_len, rM_take, Int.toNat_natCast, aceR, aceS, sh6, sh3, andI_fold, e3, hA]
              simp -implicitDefEqProofs only [RL0, RL1, RL2, RL3, RL4, RL5, RL6, RL7, RL8, chkW, ↓get_cons', ↓hget_cons', ↓hset_cons', St.gh, isNil, evalA, opTs, LOp.args, Nat.reduceBEq, renS, ren1, ren0, renB, only, sg, gmOf, wrN, buildCells, bsRows, Value.oneCell', setAt, eqCells, eqCell, vI, vB, vS, apartW, Nat.reduceEqDiff, Nat.reduceAdd, Nat.reduceSub, Nat.reduceMul, Nat.reduceLT, Nat.reduceLeDiff, Int.reduceEq, Int.reduceNe, Int.reduceLT, Int.reduceLE, reduceCtorEq, ↓reduceIte, ne_eq, eq_self, and_self, str_eq_iff, Int.toNat_natCast, aceR, aceS, sh6, sh3, andI_fold, e3, hA]
              exact ⟨(k + 1, any, good), ⟨by simp only; omega, g2⟩, by simp only; omega, LE.refl _ _⟩
          · rw [if_neg (fun q => q2 q.1)] at g2
            have c2 : (a.1 = 2) = False := eq_false q2
            have fin : ∃ y : Nat × Bool × Bool, (y.1 ≤ l.length ∧ scan who ask mk mode gs (l.drop y.1) y.2.1 y.2.2 = letsF l mode uid gid who gs ask) ∧ l.length - y.1 < l.length - k ∧
              Eng.LE [] ⟨[(15, .d (.v (.int .i64 mk))), (17, .clo 17 [.ptr 13 0 0 0]), (68, .d (.v (.int .i64 (k + 1 : Nat)))), (19, .d (.v (.bool good))), (5, .d (.sl 1 (rK .i64 gs))), (4, .d (.v (.int .i64 who))), (66, .d (.sl 3 (rM aceR l))), (1, .d (.v (.int .i64 mode))), (18, .d (.v (.bool any))), (67, .d (.v (.int .i64 l.length)))], [(13, ⟨0, .box [.d (.v (.int .i64 ask))]⟩)]⟩
                ⟨[(15, .d (.v (.int .i64 mk))), (17, .clo 17 [.ptr 13 0 0 0]), (68, .d (.v (.int .i64 y.1))), (19, .d (.v (.bool y.2.2))), (5, .d (.sl 1 (rK .i64 gs))), (4, .d (.v (.int .i64 who))), (66, .d (.sl 3 (rM aceR l))), (1, .d (.v (.int .i64 mode))), (18, .d (.v (.bool y.2.1))), (67, .d (.v (.int .i64 l.length)))], [(13, ⟨0, .box [.d (.v (.int .i64 ask))]⟩)]⟩ :=
              ⟨(k + 1, any, good), ⟨by simp only; omega, g2⟩, by simp only; omega, LE.refl _ _⟩
            by_cases q3 : a.1 = 1
            · have c1 : (a.1 = 1) = True := eq_true q3
              have c3 : (a.2.1 = who) = False := eq_false (fun q => q1 ⟨q3, q⟩)
              simp -implicitDefEqProofs only [RL0, RL1, RL2, RL3, RL4, RL5, RL6, RL7, RL8, chkW, ↓get_cons', ↓hget_cons', ↓hset_cons', St.gh, isNil, evalA, opTs, LOp.args, Nat.reduceBEq, renS, ren1, ren0, renB, only, sg, gmOf, wrN, buildCells, bsRows, Value.oneCell', setAt, eqCells, eqCell, vI, vB, vS, apartW, Nat.reduceEqDiff, Nat.reduceAdd, Nat.reduceSub, Nat.reduceMul, Nat.reduceLT, Nat.reduceLeDiff, Int.reduceEq, Int.reduceNe, Int.reduceLT, Int.reduceLE, reduceCtorEq, ↓reduceIte, ne_eq, eq_self, and_self, str_eq_iff, Int.toNat_natCast, aceR, aceS, sh6, sh3, andI_fold, e1, e3, hA, c1, c2, c3]
              exact ⟨by omega, fin⟩
            · have c1 : (a.1 = 1) = False := eq_false q3
              simp -implicitDefEqProofs only [RL0, RL1, RL2, RL3, RL4, RL5, RL6, RL7, RL8, chkW, ↓get_cons', ↓hget_cons', ↓hset_cons', St.gh, isNil, evalA, opTs, LOp.args, Nat.reduceBEq, renS, ren1, ren0, renB, only, sg, gmOf, wrN, buildCells, bsRows, Value.oneCell', setAt, eqCells, eqCell, vI, vB, vS, apartW, Nat.reduceEqDiff, Nat.reduceAdd, Nat.reduceSub, Nat.reduceMul, Nat.reduceLT, Nat.reduceLeDiff, Int.reduceEq, Int.reduceNe, Int.reduceLT, Int.reduceLE, reduceCtorEq, ↓reduceIte, ne_eq, eq_self, and_self, str_eq_iff, Int.toNat_natCast, aceR, aceS, sh6, sh3, andI_fold, e1, e3, hA, c1, c2]
              exact ⟨by omega, fin⟩
      · have hk' : k = l.length := by omega
        subst hk'
        have e1 : ((l.length : Int) < (l.length : Int)) = False := eq_false (by omega)
        rw [List.drop_of_length_le (by omega), scan] at g2
        cases any
        · simp -implicitDefEqProofs only [RL0, RL1, RL2, RL3, RL4, RL5, RL6, RL7, RL8, chkW, ↓get_cons', ↓hget_cons', ↓hset_cons', St.gh, isNil, evalA, opTs, LOp.args, Nat.reduceBEq, renS, ren1, ren0, renB, only, sg, gmOf, wrN, buildCells, bsRows, Value.oneCell', setAt, eqCells, eqCell, vI, vB, vS, apartW, Nat.reduceEqDiff, Nat.reduceAdd, Nat.reduceSub, Nat.reduceMul, Nat.reduceLT, Nat.reduceLeDiff, Int.reduceEq, Int.reduceNe, Int.reduceLT, Int.reduceLE, reduceCtorEq, ↓reduceIte, ne_eq, eq_self, and_self, str_eq_iff, Int.toNat_natCast, aceR, aceS, sh6, sh3, andI_fold, e1]
          refine ⟨hcal, ?_⟩
          refine callL_of (lets1_spec ask mode) [(1000, 13)] false [] [] ?_ ?_
          · refine CallOk.of ?_ ?_ rfl ?_ rfl rfl rfl rfl ?_ rfl ?_ rfl
            all_goals simp [ML, args1, arg1, args0, lents1, lent1, lent0, lents0, lentB, rowsM, body0, only, sg, injB, apartB, keysOf, cur, resS, ↓get_cons', ↓hget_cons', Value.oneCell', eq_self, and_self, ne_eq, vI, rK_nil, rK_len, rK_take, rM_len, rM_take, Int.toNat_natCast, aceR, aceS, sh6, sh3, andI_fold]
          simp -implicitDefEqProofs only [RL0, RL1, RL2, RL3, RL4, RL5, RL6, RL7, RL8, chkW, ↓get_cons', ↓hget_cons', ↓hset_cons', St.gh, isNil, evalA, opTs, LOp.args, Nat.reduceBEq, renS, ren1, ren0, renB, only, sg, gmOf, wrN, buildCells, bsRows, Value.oneCell', setAt, eqCells, eqCell, vI, vB, vS, apartW, Nat.reduceEqDiff, Nat.reduceAdd, Nat.reduceSub, Nat.reduceMul, Nat.reduceLT, Nat.reduceLeDiff, Int.reduceEq, Int.reduceNe, Int.reduceLT, Int.reduceLE, reduceCtorEq, ↓reduceIte, ne_eq, eq_self, and_self, str_eq_iff, Int.toNat_natCast, aceR, aceS, sh6, sh3, andI_fold]
          exact hret _ g2.symm
        · simp -implicitDefEqProofs only [RL0, RL1, RL2, RL3, RL4, RL5, RL6, RL7, RL8, chkW, ↓get_cons', ↓hget_cons', ↓hset_cons', St.gh, isNil, evalA, opTs, LOp.args, Nat.reduceBEq, renS, ren1, ren0, renB, only, sg, gmOf, wrN, buildCells, bsRows, Value.oneCell', setAt, eqCells, eqCell, vI, vB, vS, apartW, Nat.reduceEqDiff, Nat.reduceAdd, Nat.reduceSub, Nat.reduceMul, Nat.reduceLT, Nat.reduceLeDiff, Int.reduceEq, Int.reduceNe, Int.reduceLT, Int.reduceLE, reduceCtorEq, ↓reduceIte, ne_eq, eq_self, and_self, str_eq_iff, Int.toNat_natCast, aceR, aceS, sh6, sh3, andI_fold, e1]
          exact hret _ g2.symm
    · refine callL_of (s1) [] false [] [] ?_ ?_
      · refine CallOk.of ?_ ?_ rfl ?_ rfl rfl rfl rfl ?_ rfl ?_ rfl
        all_goals simp [ML, args1, arg1, args0, lents1, lent1, lent0, lents0, lentB, rowsM, body0, only, sg, injB, apartB, keysOf, cur, resS, ↓get_cons', ↓hget_cons', Value.oneCell', eq_self, and_self, ne_eq, vI, rK_nil, rK_len, rK_take, rM_len, rM_take, Int.toNat_natCast, aceR, aceS, sh6, sh3, andI_fold]
      simp -implicitDefEqProofs only [RL0, RL1, RL2, RL3, RL4, RL5, RL6, RL7, RL8, chkW, ↓get_cons', ↓hget_cons', ↓hset_cons', St.gh, isNil, evalA, opTs, LOp.args, Nat.reduceBEq, renS, ren1, ren0, renB, only, sg, gmOf, wrN, buildCells, bsRows, Value.oneCell', setAt, eqCells, eqCell, vI, vB, vS, apartW, Nat.reduceEqDiff, Nat.reduceAdd, Nat.reduceSub, Nat.reduceMul, Nat.reduceLT, Nat.reduceLeDiff, Int.reduceEq, Int.reduceNe, Int.reduceLT, Int.reduceLE, reduceCtorEq, ↓reduceIte, ne_eq, eq_self, and_self, str_eq_iff, Int.toNat_natCast, aceR, aceS, sh6, sh3, andI_fold]
      refine ⟨hcal, ?_⟩
      refine callL_of (lets1_spec ask (andI (mode.fdiv 8) mk)) [(1000, 13)] false [] [] ?_ ?_
      · refine CallOk.of ?_ ?_ rfl ?_ rfl rfl rfl rfl ?_ rfl ?_ rfl
        all_goals simp [ML, args1, arg1, args0, lents1, lent1, lent0, lents0, lentB, rowsM, body0, only, sg, injB, apartB, keysOf, cur, resS, ↓get_cons', ↓hget_cons', Value.oneCell', eq_self, and_self, ne_eq, vI, rK_nil, rK_len, rK_take, rM_len, rM_take, Int.toNat_natCast, aceR, aceS, sh6, sh3, andI_fold]
      simp -implicitDefEqProofs only [RL0, RL1, RL2, RL3, RL4, RL5, RL6, RL7, RL8, chkW, ↓get_cons', ↓hget_cons', ↓hset_cons', St.gh, isNil, evalA, opTs, LOp.args, Nat.reduceBEq, renS, ren1, ren0, renB, only, sg, gmOf, wrN, buildCells, bsRows, Value.oneCell', setAt, eqCells, eqCell, vI, vB, vS, apartW, Nat.reduceEqDiff, Nat.reduceAdd, Nat.reduceSub, Nat.reduceMul, Nat.reduceLT, Nat.reduceLeDiff, Int.reduceEq, Int.reduceNe, Int.reduceLT, Int.reduceLE, reduceCtorEq, ↓reduceIte, ne_eq, eq_self, and_self, str_eq_iff, Int.toNat_natCast, aceR, aceS, sh6, sh3, andI_fold]
      rw [Bool.true_and] at hF
      generalize letsP ask (andI (mode.fdiv 8) mk) = gd at *
      refine vc_loop (fun x : Nat × Bool × Bool => ⟨[(15, .d (.v (.int .i64 mk))), (17, .clo 17 [.ptr 13 0 0 0]), (68, .d (.v (.int .i64 x.1))), (19, .d (.v (.bool x.2.2))), (5, .d (.sl 1 (rK .i64 gs))), (4, .d (.v (.int .i64 who))), (66, .d (.sl 3 (rM aceR l))), (1, .d (.v (.int .i64 mode))), (18, .d (.v (.bool x.2.1))), (67, .d (.v (.int .i64 l.length)))], [(13, ⟨0, .box [.d (.v (.int .i64 ask))]⟩)]⟩)
        (fun x => x.1 ≤ l.length ∧ scan who ask mk mode gs (l.drop x.1) x.2.1 x.2.2 = letsF l mode uid gid who gs ask) (fun x => l.length - x.1) (0, true, gd) ⟨by omega, hF.symm⟩ (LE.refl _ _) ?_
      rintro ⟨k, any, good⟩ ⟨g1, g2⟩
      simp only at g1 g2
      have e3 : IntKind.i64.wrap ((k : Int) + 1) = ((k + 1 : Nat) : Int) := by rw [i64_in _ (by omega)]; omega
      by_cases hk : k < l.length
      · have e1 : ((k : Int) < (l.length : Int)) = True := eq_true (by omega)
        have ha : l.getD k default = l[k] := by rw [List.getD_eq_getElem?_getD, List.getElem?_eq_getElem hk]; rfl
        rw [List.drop_eq_getElem_cons hk, ← ha, scan] at g2
        generalize hA : l.getD k default = a at g2
        by_cases q1 : a.1 = 1 ∧ a.2.1 = who
        · rw [if_pos q1] at g2
          have c1 : (a.1 = 1) = True := eq_true q1.1
          have c2 : (a.2.1 = who) = True := eq_true q1.2
          simp -implicitDefEqProofs only [RL0, RL1, RL2, RL3, RL4, RL5, RL6, RL7, RL8, chkW, ↓get_cons', ↓hget_cons', ↓hset_cons', St.gh, isNil, evalA, opTs, LOp.args, Nat.reduceBEq, renS, ren1, ren0, renB, only, sg, gmOf, wrN, buildCells, bsRows, Value.oneCell', setAt, eqCells, eqCell, vI, vB, vS, apartW, Nat.reduceEqDiff, Nat.reduceAdd, Nat.reduceSub, Nat.reduceMul, Nat.reduceLT, Nat.reduceLeDiff, Int.reduceEq, Int.reduceNe, Int.reduceLT, Int.reduceLE, reduceCtorEq, ↓reduceIte, ne_eq, eq_self, and_self, str_eq_iff, Int.toNat_natCast, aceR, aceS, sh6, sh3, andI_fold, e1, e3, hA, c1, c2]
          refine ⟨by omega, hcal, ?_⟩
          refine callL_of (lets1_spec ask (andI a.2.2 mk)) [(1000, 13)] false [] [] ?_ ?_
          · refine CallOk.of ?_ ?_ rfl ?_ rfl rfl rfl rfl ?_ rfl ?_ rfl
            all_goals simp [ML, args1, arg1, args0, lents1, lent1, lent0, lents0, lentB, rowsM, body0, only, sg, injB, apartB, keysOf, cur, resS, ↓get_cons', ↓hget_cons', Value.oneCell', eq_self, and_self, ne_eq, vI, rK_nil, rK_len, rK_take, rM_len, rM_take, Int.toNat_natCast, aceR, aceS, sh6, sh3, andI_fold]
          simp -implicitDefEqProofs only [RL0, RL1, RL2, RL3, RL4, RL5, RL6, RL7, RL8, chkW, ↓get_cons', ↓hget_cons', ↓hset_cons', St.gh, isNil, evalA, opTs, LOp.args, Nat.reduceBEq, renS, ren1, ren0, renB, only, sg, gmOf, wrN, buildCells, bsRows, Value.oneCell', setAt, eqCells, eqCell, vI, vB, vS, apartW, Nat.reduceEqDiff, Nat.reduceAdd, Nat.reduceSub, Nat.reduceMul, Nat.reduceLT, Nat.reduceLeDiff, Int.reduceEq, Int.reduceNe, Int.reduceLT, Int.reduceLE, reduceCtorEq, ↓reduceIte, ne_eq, eq_self, and_self, str_eq_iff, Int.toNat_natCast, aceR, aceS, sh6, sh3, andI_fold]
          exact hret _ g2.symm
        · rw [if_neg q1] at g2
          by_cases q2 : a.1 = 2
          · have c1 : (a.1 = 1) = False := eq_false (by omega)
            have c2 : (a.1 = 2) = True := eq_true q2
            have c3 : ((2 : Int) = 1) = False := by decide
            have s2 := contains_spec gs a.2.1 hg
            simp -implicitDefEqProofs only [RL0, RL1, RL2, RL3, RL4, RL5, RL6, RL7, RL8, chkW, ↓get_cons', ↓hget_cons', ↓hset_cons', St.gh, isNil, evalA, opTs, LOp.args, Nat.reduceBEq, renS, ren1, ren0, renB, only, sg, gmOf, wrN, buildCells, bsRows, Value.oneCell', setAt, eqCells, eqCell, vI, vB, vS, apartW, Nat.reduceEqDiff, Nat.reduceAdd, Nat.reduceSub, Nat.reduceMul, Nat.reduceLT, Nat.reduceLeDiff, Int.reduceEq, Int.reduceNe, Int.reduceLT, Int.reduceLE, reduceCtorEq, ↓reduceIte, ne_eq, eq_self, and_self, str_eq_iff, Int.toNat_natCast, aceR, aceS, sh6, sh3, andI_fold, e1, e3, hA, c1, c2]
            refine ⟨by omega, ?_⟩
            by_cases hgb : a.2.1 ∈ gs
            · rw [decide_eq_true hgb] at s2
              rw [if_pos ⟨q2, hgb⟩] at g2
              refine callL_of (s2) [] false [] [] ?_ ?_
              · refine CallOk.of ?_ ?_ rfl ?_ rfl rfl rfl rfl ?_ rfl ?_ rfl
                all_goals simp [ML, args1, arg1, args0, lents1, lent1, lent0, lents0, lentB, rowsM, body0, only, sg, injB, apartB, keysOf, cur, resS, ↓get_cons', ↓hget_cons', Value.oneCell', eq_self, and_self, ne_eq, vI, rK_nil, rK_len, rK_take, rM_len, rM_take, Int.toNat_natCast, aceR, aceS, sh6, sh3, andI_fold, e3, hA]
              simp -implicitDefEqProofs only [RL0, RL1, RL2, RL3, RL4, RL5, RL6, RL7, RL8, chkW, ↓get_cons', ↓hget_cons', ↓hset_cons', St.gh, isNil, evalA, opTs, LOp.args, Nat.reduceBEq, renS, ren1, ren0, renB, only, sg, gmOf, wrN, buildCells, bsRows, Value.oneCell', setAt, eqCells, eqCell, vI, vB, vS, apartW, Nat.reduceEqDiff, Nat.reduceAdd, Nat.reduceSub, Nat.reduceMul, Nat.reduceLT, Nat.reduceLeDiff, Int.reduceEq, Int.reduceNe, Int.reduceLT, Int.reduceLE, reduceCtorEq, ↓reduceIte, ne_eq, eq_self, and_self, str_eq_iff, Int.toNat_natCast, aceR, aceS, sh6, sh3, andI_fold, e3, hA]
              cases good
              · simp -implicitDefEqProofs only [RL0, RL1, RL2, RL3, RL4, RL5, RL6, RL7, RL8, chkW, ↓get_cons', ↓hget_cons', ↓hset_cons', St.gh, isNil, evalA, opTs, LOp.args, Nat.reduceBEq, renS, ren1, ren0, renB, only, sg, gmOf, wrN, buildCells, bsRows, Value.oneCell', setAt, eqCells, eqCell, vI, vB, vS, apartW, Nat.reduceEqDiff, Nat.reduceAdd, Nat.reduceSub, Nat.reduceMul, Nat.reduceLT, Nat.reduceLeDiff, Int.reduceEq, Int.reduceNe, Int.reduceLT, Int.reduceLE, reduceCtorEq, ↓reduceIte, ne_eq, eq_self, and_self, str_eq_iff, Int.toNat_natCast, aceR, aceS, sh6, sh3, andI_fold]
                refine ⟨hcal, ?_⟩
                refine callL_of (lets1_spec ask (andI a.2.2 mk)) [(1000, 13)] false [] [] ?_ ?_
                · refine CallOk.of ?_ ?_ rfl ?_ rfl rfl rfl rfl ?_ rfl ?_ rfl
                  all_goals simp [ML, args1, arg1, args0, lents1, lent1, lent0, lents0, lentB, rowsM, body0, only, sg, injB, apartB, keysOf, cur, resS, ↓get_cons', ↓hget_cons', Value.oneCell', eq_self, and_self, ne_eq, vI, rK_nil, rK_len, rK_take, rM_len, rM_take, Int.toNat_natCast, aceR, aceS, sh6, sh3, andI_fold, e3]
                simp -implicitDefEqProofs only [RL0, RL1, RL2, RL3, RL4, RL5, RL6, RL7, RL8, chkW, ↓get_cons', ↓hget_cons', ↓hset_cons', St.gh, isNil, evalA, opTs, LOp.args, Nat.reduceBEq, renS, ren1, ren0, renB, only, sg, gmOf, wrN, buildCells, bsRows, Value.oneCell', setAt, eqCells, eqCell, vI, vB, vS, apartW, Nat.reduceEqDiff, Nat.reduceAdd, Nat.reduceSub, Nat.reduceMul, Nat.reduceLT, Nat.reduceLeDiff, Int.reduceEq, Int.reduceNe, Int.reduceLT, Int.reduceLE, reduceCtorEq, ↓reduceIte, ne_eq, eq_self, and_self, str_eq_iff, Int.toNat_natCast, aceR, aceS, sh6, sh3, andI_fold, e3]
                exact ⟨(k + 1, true, _), ⟨by simp only; omega, g2⟩, by simp only; omega, LE.refl _ _⟩
              · simp -implicitDefEqProofs only [RL0, RL1, RL2, RL3, RL4, RL5, RL6, RL7, RL8, chkW, ↓get_cons', ↓hget_cons', ↓hset_cons', St.gh, isNil, evalA, opTs, LOp.args, Nat.reduceBEq, renS, ren1, ren0, renB, only, sg, gmOf, wrN, buildCells, bsRows, Value.oneCell', setAt, eqCells, eqCell, vI, vB, vS, apartW, Nat.reduceEqDiff, Nat.reduceAdd, Nat.reduceSub, Nat.reduceMul, Nat.reduceLT, Nat.reduceLeDiff, Int.reduceEq, Int.reduceNe, Int.reduceLT, Int.reduceLE, reduceCtorEq, ↓reduceIte, ne_eq, eq_self, and_self, str_eq_iff, Int.toNat_natCast, aceR, aceS, sh6, sh3, andI_fold, e3]
                exact ⟨(k + 1, true, true), ⟨by simp only; omega, g2⟩, by simp only; omega, LE.refl _ _⟩
            · rw [decide_eq_false hgb] at s2
              rw [if_neg (fun q => hgb q.2)] at g2
              refine callL_of (s2) [] false [] [] ?_ ?_
              · refine CallOk.of ?_ ?_ rfl ?_ rfl rfl rfl rfl ?_ rfl ?_ rfl
                all_goals simp [ML, args1, arg1, args0, lents1, lent1, lent0, lents0, lentB, rowsM, body0, only, sg, injB, apartB, keysOf, cur, resS, ↓get_cons', ↓hget_cons', Value.oneCell', eq_self, and_self, ne_eq, vI, rK_nil, rK_len, rK_take, rM_len, rM_take, Int.toNat_natCast, aceR, aceS, sh6, sh3, andI_fold, e3, hA]
              simp -implicitDefEqProofs only [RL0, RL1, RL2, RL3, RL4, RL5, RL6, RL7, RL8, chkW, ↓get_cons', ↓hget_cons', ↓hset_cons', St.gh, isNil, evalA, opTs, LOp.args, Nat.reduceBEq, renS, ren1, ren0, renB, only, sg, gmOf, wrN, buildCells, bsRows, Value.oneCell', setAt, eqCells, eqCell, vI, vB, vS, apartW, Nat.reduceEqDiff, Nat.reduceAdd, Nat.reduceSub, Nat.reduceMul, Nat.reduceLT, Nat.reduceLeDiff, Int.reduceEq, Int.reduceNe, Int.reduceLT, Int.reduceLE, reduceCtorEq, ↓reduceIte, ne_eq, eq_self, and_self, str_eq_iff, Int.toNat_natCast, aceR, aceS, sh6, sh3, andI_fold, e3, hA]
              exact ⟨(k + 1, any, good), ⟨by simp only; omega, g2⟩, by simp only; omega, LE.refl _ _⟩
          · rw [if_neg (fun q => q2 q.1)] at g2
            have c2 : (a.1 = 2) = False := eq_false q2
            have fin : ∃ y : Nat × Bool × Bool, (y.1 ≤ l.length ∧ scan who ask mk mode gs (l.drop y.1) y.2.1 y.2.2 = letsF l mode uid gid who gs ask) ∧ l.length - y.1 < l.length - k ∧
              Eng.LE [] ⟨[(15, .d (.v (.int .i64 mk))), (17, .clo 17 [.ptr 13 0 0 0]), (68, .d (.v (.int .i64 (k + 1 : Nat)))), (19, .d (.v (.bool good))), (5, .d (.sl 1 (rK .i64 gs))), (4, .d (.v (.int .i64 who))), (66, .d (.sl 3 (rM aceR l))), (1, .d (.v (.int .i64 mode))), (18, .d (.v (.bool any))), (67, .d (.v (.int .i64 l.length)))], [(13, ⟨0, .box [.d (.v (.int .i64 ask))]⟩)]⟩
                ⟨[(15, .d (.v (.int .i64 mk))), (17, .clo 17 [.ptr 13 0 0 0]), (68, .d (.v (.int .i64 y.1))), (19, .d (.v (.bool y.2.2))), (5, .d (.sl 1 (rK .i64 gs))), (4, .d (.v (.int .i64 who))), (66, .d (.sl 3 (rM aceR l))), (1, .d (.v (.int .i64 mode))), (18, .d (.v (.bool y.2.1))), (67, .d (.v (.int .i64 l.length)))], [(13, ⟨0, .box [.d (.v (.int .i64 ask))]⟩)]⟩ :=
              ⟨(k + 1, any, good), ⟨by simp only; omega, g2⟩, by simp only; omega, LE.refl _ _⟩
            by_cases q3 : a.1 = 1
            · have c1 : (a.1 = 1) = True := eq_true q3
              have c3 : (a.2.1 = who) = False := eq_false (fun q => q1 ⟨q3, q⟩)
              simp -implicitDefEqProofs only [RL0, RL1, RL2, RL3, RL4, RL5, RL6, RL7, RL8, chkW, ↓get_cons', ↓hget_cons', ↓hset_cons', St.gh, isNil, evalA, opTs, LOp.args, Nat.reduceBEq, renS, ren1, ren0, renB, only, sg, gmOf, wrN, buildCells, bsRows, Value.oneCell', setAt, eqCells, eqCell, vI, vB, vS, apartW, Nat.reduceEqDiff, Nat.reduceAdd, Nat.reduceSub, Nat.reduceMul, Nat.reduceLT, Nat.reduceLeDiff, Int.reduceEq, Int.reduceNe, Int.reduceLT, Int.reduceLE, reduceCtorEq, ↓reduceIte, ne_eq, eq_self, and_self, str_eq_iff, Int.toNat_natCast, aceR, aceS, sh6, sh3, andI_fold, e1, e3, hA, c1, c2, c3]
              exact ⟨by omega, fin⟩
            · have c1 : (a.1 = 1) = False := eq_false q3
              simp -implicitDefEqProofs only [RL0, RL1, RL2, RL3, RL4, RL5, RL6, RL7, RL8, chkW, ↓get_cons', ↓hget_cons', ↓hset_cons', St.gh, isNil, evalA, opTs, LOp.args, Nat.reduceBEq, renS, ren1, ren0, renB, only, sg, gmOf, wrN, buildCells, bsRows, Value.oneCell', setAt, eqCells, eqCell, vI, vB, vS, apartW, Nat.reduceEqDiff, Nat.reduceAdd, Nat.reduceSub, Nat.reduceMul, Nat.reduceLT, Nat.reduceLeDiff, Int.reduceEq, Int.reduceNe, Int.reduceLT, Int.reduceLE, reduceCtorEq, ↓reduceIte, ne_eq, eq_self, and_self, str_eq_iff, Int.toNat_natCast, aceR, aceS, sh6, sh3, andI_fold, e1, e3, hA, c1, c2]
              exact ⟨by omega, fin⟩
      · have hk' : k = l.length := by omega
        subst hk'
        have e1 : ((l.length : Int) < (l.length : Int)) = False := eq_false (by omega)
        rw [List.drop_of_length_le (by omega), scan] at g2
        cases any
        · simp -implicitDefEqProofs only [RL0, RL1, RL2, RL3, RL4, RL5, RL6, RL7, RL8, chkW, ↓get_cons', ↓hget_cons', ↓hset_cons', St.gh, isNil, evalA, opTs, LOp.args, Nat.reduceBEq, renS, ren1, ren0, renB, only, sg, gmOf, wrN, buildCells, bsRows, Value.oneCell', setAt, eqCells, eqCell, vI, vB, vS, apartW, Nat.reduceEqDiff, Nat.reduceAdd, Nat.reduceSub, Nat.reduceMul, Nat.reduceLT, Nat.reduceLeDiff, Int.reduceEq, Int.reduceNe, Int.reduceLT, Int.reduceLE, reduceCtorEq, ↓reduceIte, ne_eq, eq_self, and_self, str_eq_iff, Int.toNat_natCast, aceR, aceS, sh6, sh3, andI_fold, e1]
          refine ⟨hcal, ?_⟩
          refine callL_of (lets1_spec ask mode) [(1000, 13)] false [] [] ?_ ?_
          · refine CallOk.of ?_ ?_ rfl ?_ rfl rfl rfl rfl ?_ rfl ?_ rfl
            all_goals simp [ML, args1, arg1, args0, lents1, lent1, lent0, lents0, lentB, rowsM, body0, only, sg, injB, apartB, keysOf, cur, resS, ↓get_cons', ↓hget_cons', Value.oneCell', eq_self, and_self, ne_eq, vI, rK_nil, rK_len, rK_take, rM_len, rM_take, Int.toNat_natCast, aceR, aceS, sh6, sh3, andI_fold]
          simp -implicitDefEqProofs only [RL0, RL1, RL2, RL3, RL4, RL5, RL6, RL7, RL8, chkW, ↓get_cons', ↓hget_cons', ↓hset_cons', St.gh, isNil, evalA, opTs, LOp.args, Nat.reduceBEq, renS, ren1, ren0, renB, only, sg, gmOf, wrN, buildCells, bsRows, Value.oneCell', setAt, eqCells, eqCell, vI, vB, vS, apartW, Nat.reduceEqDiff, Nat.reduceAdd, Nat.reduceSub, Nat.reduceMul, Nat.reduceLT, Nat.reduceLeDiff, Int.reduceEq, Int.reduceNe, Int.reduceLT, Int.reduceLE, reduceCtorEq, ↓reduceIte, ne_eq, eq_self, and_self, str_eq_iff, Int.toNat_natCast, aceR, aceS, sh6, sh3, andI_fold]
          exact hret _ g2.symm
        · simp -implicitDefEqProofs only [RL0, RL1, RL2, RL3, RL4, RL5, RL6, RL7, RL8, chkW, ↓get_cons', ↓hget_cons', ↓hset_cons', St.gh, isNil, evalA, opTs, LOp.args, Nat.reduceBEq, renS, ren1, ren0, renB, only, sg, gmOf, wrN, buildCells, bsRows, Value.oneCell', setAt, eqCells, eqCell, vI, vB, vS, apartW, Nat.reduceEqDiff, Nat.reduceAdd, Nat.reduceSub, Nat.reduceMul, Nat.reduceLT, Nat.reduceLeDiff, Int.reduceEq, Int.reduceNe, Int.reduceLT, Int.reduceLE, reduceCtorEq, ↓reduceIte, ne_eq, eq_self, and_self, str_eq_iff, Int.toNat_natCast, aceR, aceS, sh6, sh3, andI_fold, e1]
          exact hret _ g2.symm
  · have hm : maskOf l = 7 := by unfold maskOf; rw [if_pos (by omega)]
    refine ⟨fun hw => hret _ (by rw [hF, if_pos hw]), fun hw => ⟨fun hu => ⟨hcal, ?_⟩, fun hu => ?_⟩⟩
    · refine callL_of (lets1_spec ask (mode.fdiv 64)) [(1000, 13)] false [] [] ?_ ?_
      · refine CallOk.of ?_ ?_ rfl ?_ rfl rfl rfl rfl ?_ rfl ?_ rfl
        all_goals simp [ML, args1, arg1, args0, lents1, lent1, lent0, lents0, lentB, rowsM, body0, only, sg, injB, apartB, keysOf, cur, resS, ↓get_cons', ↓hget_cons', Value.oneCell', eq_self, and_self, ne_eq, vI, rK_nil, rK_len, rK_take, rM_len, rM_take, Int.toNat_natCast, aceR, aceS, sh6, sh3, andI_fold]
      simp -implicitDefEqProofs only [RL0, RL1, RL2, RL3, RL4, RL5, RL6, RL7, RL8, chkW, ↓get_cons', ↓hget_cons', ↓hset_cons', St.gh, isNil, evalA, opTs, LOp.args, Nat.reduceBEq, renS, ren1, ren0, renB, only, sg, gmOf, wrN, buildCells, bsRows, Value.oneCell', setAt, eqCells, eqCell, vI, vB, vS, apartW, Nat.reduceEqDiff, Nat.reduceAdd, Nat.reduceSub, Nat.reduceMul, Nat.reduceLT, Nat.reduceLeDiff, Int.reduceEq, Int.reduceNe, Int.reduceLT, Int.reduceLE, reduceCtorEq, ↓reduceIte, ne_eq, eq_self, and_self, str_eq_iff, Int.toNat_natCast, aceR, aceS, sh6, sh3, andI_fold]
      refine hret _ ?_
      rw [hF, if_neg hw, if_pos hu]
    rw [if_neg hw, if_neg hu, hm] at hF
    have s1 := contains_spec gs gid hg
    generalize decide (gid ∈ gs) = gb at *
    cases gb
    · refine callL_of (s1) [] false [] [] ?_ ?_
      · refine CallOk.of ?_ ?_ rfl ?_ rfl rfl rfl rfl ?_ rfl ?_ rfl
        all_goals simp [ML, args1, arg1, args0, lents1, lent1, lent0, lents0, lentB, rowsM, body0, only, sg, injB, apartB, keysOf, cur, resS, ↓get_cons', ↓hget_cons', Value.oneCell', eq_self, and_self, ne_eq, vI, rK_nil, rK_len, rK_take, rM_len, rM_take, Int.toNat_natCast, aceR, aceS, sh6, sh3, andI_fold]
      simp -implicitDefEqProofs only [RL0, RL1, RL2, RL3, RL4, RL5, RL6, RL7, RL8, chkW, ↓get_cons', ↓hget_cons', ↓hset_cons', St.gh, isNil, evalA, opTs, LOp.args, Nat.reduceBEq, renS, ren1, ren0, renB, only, sg, gmOf, wrN, buildCells, bsRows, Value.oneCell', setAt, eqCells, eqCell, vI, vB, vS, apartW, Nat.reduceEqDiff, Nat.reduceAdd, Nat.reduceSub, Nat.reduceMul, Nat.reduceLT, Nat.reduceLeDiff, Int.reduceEq, Int.reduceNe, Int.reduceLT, Int.reduceLE, reduceCtorEq, ↓reduceIte, ne_eq, eq_self, and_self, str_eq_iff, Int.toNat_natCast, aceR, aceS, sh6, sh3, andI_fold]
      rw [Bool.false_and] at hF
      refine vc_loop (fun x : Nat × Bool × Bool => ⟨[(15, .d (.v (.int .i64 7))), (17, .clo 17 [.ptr 13 0 0 0]), (68, .d (.v (.int .i64 x.1))), (19, .d (.v (.bool x.2.2))), (5, .d (.sl 1 (rK .i64 gs))), (4, .d (.v (.int .i64 who))), (66, .d (.sl 3 (rM aceR l))), (1, .d (.v (.int .i64 mode))), (18, .d (.v (.bool x.2.1))), (67, .d (.v (.int .i64 l.length)))], [(13, ⟨0, .box [.d (.v (.int .i64 ask))]⟩)]⟩)
        (fun x => x.1 ≤ l.length ∧ scan who ask 7 mode gs (l.drop x.1) x.2.1 x.2.2 = letsF l mode uid gid who gs ask) (fun x => l.length - x.1) (0, false, false) ⟨by omega, hF.symm⟩ (LE.refl _ _) ?_
      rintro ⟨k, any, good⟩ ⟨g1, g2⟩
      simp only at g1 g2
      have e3 : IntKind.i64.wrap ((k : Int) + 1) = ((k + 1 : Nat) : Int) := by rw [i64_in _ (by omega)]; omega
      by_cases hk : k < l.length
      · have e1 : ((k : Int) < (l.length : Int)) = True := eq_true (by omega)
        have ha : l.getD k default = l[k] := by rw [List.getD_eq_getElem?_getD, List.getElem?_eq_getElem hk]; rfl
        rw [List.drop_eq_getElem_cons hk, ← ha, scan] at g2
        generalize hA : l.getD k default = a at g2
        by_cases q1 : a.1 = 1 ∧ a.2.1 = who
        · rw [if_pos q1] at g2
          have c1 : (a.1 = 1) = True := eq_true q1.1
          have c2 : (a.2.1 = who) = True := eq_true q1.2
          simp -implicitDefEqProofs only [RL0, RL1, RL2, RL3, RL4, RL5, RL6, RL7, RL8, chkW, ↓get_cons', ↓hget_cons', ↓hset_cons', St.gh, isNil, evalA, opTs, LOp.args, Nat.reduceBEq, renS, ren1, ren0, renB, only, sg, gmOf, wrN, buildCells, bsRows, Value.oneCell', setAt, eqCells, eqCell, vI, vB, vS, apartW, Nat.reduceEqDiff, Nat.reduceAdd, Nat.reduceSub, Nat.reduceMul, Nat.reduceLT, Nat.reduceLeDiff, Int.reduceEq, Int.reduceNe, Int.reduceLT, Int.reduceLE, reduceCtorEq, ↓reduceIte, ne_eq, eq_self, and_self, str_eq_iff, Int.toNat_natCast, aceR, aceS, sh6, sh3, andI_fold, e1, e3, hA, c1, c2]
          refine ⟨by omega, hcal, ?_⟩
          refine callL_of (lets1_spec ask (andI a.2.2 7)) [(1000, 13)] false [] [] ?_ ?_
          · refine CallOk.of ?_ ?_ rfl ?_ rfl rfl rfl rfl ?_ rfl ?_ rfl
            all_goals simp [ML, args1, arg1, args0, lents1, lent1, lent0, lents0, lentB, rowsM, body0, only, sg, injB, apartB, keysOf, cur, resS, ↓get_cons', ↓hget_cons', Value.oneCell', eq_self, and_self, ne_eq, vI, rK_nil, rK_len, rK_take, rM_len, rM_take, Int.toNat_natCast, aceR, aceS, sh6, sh3, andI_fold]
          simp -implicitDefEqProofs only [RL0, RL1, RL2, RL3, RL4, RL5, RL6, RL7, RL8, chkW, ↓get_cons', ↓hget_cons', ↓hset_cons', St.gh, isNil, evalA, opTs, LOp.args, Nat.reduceBEq, renS, ren1, ren0, renB, only, sg, gmOf, wrN, buildCells, bsRows, Value.oneCell', setAt, eqCells, eqCell, vI, vB, vS, apartW, Nat.reduceEqDiff, Nat.reduceAdd, Nat.reduceSub, Nat.reduceMul, Nat.reduceLT, Nat.reduceLeDiff, Int.reduceEq, Int.reduceNe, Int.reduceLT, Int.reduceLE, reduceCtorEq, ↓reduceIte, ne_eq, eq_self, and_self, str_eq_iff, Int.toNat_natCast, aceR, aceS, sh6, sh3, andI_fold]
          exact hret _ g2.symm
        · rw [if_neg q1] at g2
          by_cases q2 : a.1 = 2
          · have c1 : (a.1 = 1) = False := eq_false (by omega)
            have c2 : (a.1 = 2) = True := eq_true q2
            have c3 : ((2 : Int) = 1) = False := by decide
            have s2 := contains_spec gs a.2.1 hg
            simp -implicitDefEqProofs only [RL0, RL1, RL2, RL3, RL4, RL5, RL6, RL7, RL8, chkW, ↓get_cons', ↓hget_cons', ↓hset_cons', St.gh, isNil, evalA, opTs, LOp.args, Nat.reduceBEq, renS, ren1, ren0, renB, only, sg, gmOf, wrN, buildCells, bsRows, Value.oneCell', setAt, eqCells, eqCell, vI, vB, vS, apartW, Nat.reduceEqDiff, Nat.reduceAdd, Nat.reduceSub, Nat.reduceMul, Nat.reduceLT, Nat.reduceLeDiff, Int.reduceEq, Int.reduceNe, Int.reduceLT, Int.reduceLE, reduceCtorEq, ↓reduceIte, ne_eq, eq_self, and_self, str_eq_iff, Int.toNat_natCast, aceR, aceS, sh6, sh3, andI_fold, e1, e3, hA, c1, c2]
            refine ⟨by omega, ?_⟩
            by_cases hgb : a.2.1 ∈ gs
            · rw [decide_eq_true hgb] at s2
              rw [if_pos ⟨q2, hgb⟩] at g2
              refine callL_of (s2) [] false [] [] ?_ ?_
              · refine CallOk.of ?_ ?_ rfl ?_ rfl rfl rfl rfl ?_ rfl ?_ rfl
                all_goals simp [ML, args1, arg1, args0, lents1, lent1, lent0, lents0, lentB, rowsM, body0, only, sg, injB, apartB, keysOf, cur, resS, ↓get_cons', ↓hget_cons', Value.oneCell', eq_self, and_self, ne_eq, vI, rK_nil, rK_len, rK_take, rM_len, rM_take, Int.toNat_natCast, aceR, aceS, sh6, sh3, andI_fold, e3, hA]
              simp -implicitDefEqProofs only [RL0, RL1, RL2, RL3, RL4, RL5, RL6, RL7, RL8, chkW, ↓get_cons', ↓hget_cons', ↓hset_cons', St.gh, isNil, evalA, opTs, LOp.args, Nat.reduceBEq, renS, ren1, ren0, renB, only, sg, gmOf, wrN, buildCells, bsRows, Value.oneCell', setAt, eqCells, eqCell, vI, vB, vS, apartW, Nat.reduceEqDiff, Nat.reduceAdd, Nat.reduceSub, Nat.reduceMul, Nat.reduceLT, Nat.reduceLeDiff, Int.reduceEq, Int.reduceNe, Int.reduceLT, Int.reduceLE, reduceCtorEq, ↓reduceIte, ne_eq, eq_self, and_self, str_eq_iff, Int.toNat_natCast, aceR, aceS, sh6, sh3, andI_fold, e3, hA]
              cases good
              · simp -implicitDefEqProofs only [RL0, RL1, RL2, RL3, RL4, RL5, RL6, RL7, RL8, chkW, ↓get_cons', ↓hget_cons', ↓hset_cons', St.gh, isNil, evalA, opTs, LOp.args, Nat.reduceBEq, renS, ren1, ren0, renB, only, sg, gmOf, wrN, buildCells, bsRows, Value.oneCell', setAt, eqCells, eqCell, vI, vB, vS, apartW, Nat.reduceEqDiff, Nat.reduceAdd, Nat.reduceSub, Nat.reduceMul, Nat.reduceLT, Nat.reduceLeDiff, Int.reduceEq, Int.reduceNe, Int.reduceLT, Int.reduceLE, reduceCtorEq, ↓reduceIte, ne_eq, eq_self, and_self, str_eq_iff, Int.toNat_natCast, aceR, aceS, sh6, sh3, andI_fold]
                refine ⟨hcal, ?_⟩
                refine callL_of (lets1_spec ask (andI a.2.2 7)) [(1000, 13)] false [] [] ?_ ?_
                · refine CallOk.of ?_ ?_ rfl ?_ rfl rfl rfl rfl ?_ rfl ?_ rfl
                  all_goals simp [ML, args1, arg1, args0, lents1, lent1, lent0, lents0, lentB, rowsM, body0, only, sg, injB, apartB, keysOf, cur, resS, ↓get_cons', ↓hget_cons', Value.oneCell', eq_self, and_self, ne_eq, vI, rK_nil, rK_len, rK_take, rM_len, rM_take, Int.toNat_natCast, aceR, aceS, sh6, sh3, andI_fold, e3]
                simp -implicitDefEqProofs only [RL0, RL1, RL2, RL3, RL4, RL5, RL6, RL7, RL8, chkW, ↓get_cons', ↓hget_cons', ↓hset_cons', St.gh, isNil, evalA, opTs, LOp.args, Nat.reduceBEq, renS, ren1, ren0, renB, only, sg, gmOf, wrN, buildCells, bsRows, Value.oneCell', setAt, eqCells, eqCell, vI, vB, vS, apartW, Nat.reduceEqDiff, Nat.reduceAdd, Nat.reduceSub, Nat.reduceMul, Nat.reduceLT, Nat.reduceLeDiff, Int.reduceEq, Int.reduceNe, Int.reduceLT, Int.reduceLE, reduceCtorEq, ↓reduceIte, ne_eq, eq_self, and_self, str_eq_iff, Int.toNat_natCast, aceR, aceS, sh6, sh3, andI_fold, e3]
                exact ⟨(k + 1, true, _), ⟨by simp only; omega, g2⟩, by simp only; omega, LE.refl _ _⟩
              · simp -implicitDefEqProofs only [RL0, RL1, RL2, RL3, RL4, RL5, RL6, RL7, RL8, chkW, ↓get_cons', ↓hget_cons', ↓hset_cons', St.gh, isNil, evalA, opTs, LOp.args, Nat.reduceBEq, renS, ren1, ren0, renB, only, sg, gmOf, wrN, buildCells, bsRows, Value.oneCell', setAt, eqCells, eqCell, vI, vB, vS, apartW, Nat.reduceEqDiff, Nat.reduceAdd, Nat.reduceSub, Nat.reduceMul, Nat.reduceLT, Nat.reduceLeDiff, Int.reduceEq, Int.reduceNe, Int.reduceLT, Int.reduceLE, reduceCtorEq, ↓reduceIte, ne_eq, eq_self, and_self, str_eq_iff, Int.toNat_natCast, aceR, aceS, sh6, sh3, andI_fold, e3]
                exact ⟨(k + 1, true, true), ⟨by simp only; omega, g2⟩, by simp only; omega, LE.refl _ _⟩
            · rw [decide_eq_false hgb] at s2
              rw [if_neg (fun q => hgb q.2)] at g2
              refine callL_of (s2) [] false [] [] ?_ ?_
              · refine CallOk.of ?_ ?_ rfl ?_ rfl rfl rfl rfl ?_ rfl ?_ rfl
                all_goals simp [ML, args1, arg1, args0, lents1, lent1, lent0, lents0, lentB, rowsM, body0, only, sg, injB, apartB, keysOf, cur, resS, ↓get_cons', ↓hget_cons', Value.oneCell', eq_self, and_self, ne_eq, vI, rK_nil, rK_len, rK_take, rM_len, rM_take, Int.toNat_natCast, aceR, aceS, sh6, sh3, andI_fold, e3, hA]
              simp -implicitDefEqProofs only [RL0, RL1, RL2, RL3, RL4, RL5, RL6, RL7, RL8, chkW, ↓get_cons', ↓hget_cons', ↓hset_cons', St.gh, isNil, evalA, opTs, LOp.args, Nat.reduceBEq, renS, ren1, ren0, renB, only, sg, gmOf, wrN, buildCells, bsRows, Value.oneCell', setAt, eqCells, eqCell, vI, vB, vS, apartW, Nat.reduceEqDiff, Nat.reduceAdd, Nat.reduceSub, Nat.reduceMul, Nat.reduceLT, Nat.reduceLeDiff, Int.reduceEq, Int.reduceNe, Int.reduceLT, Int.reduceLE, reduceCtorEq, ↓reduceIte, ne_eq, eq_self, and_self, str_eq_iff, Int.toNat_natCast, aceR, aceS, sh6, sh3, andI_fold, e3, hA]
              exact ⟨(k + 1, any, good), ⟨by simp only; omega, g2⟩, by simp only; omega, LE.refl _ _⟩
          · rw [if_neg (fun q => q2 q.1)] at g2
            have c2 : (a.1 = 2) = False := eq_false q2
            have fin : ∃ y : Nat × Bool × Bool, (y.1 ≤ l.length ∧ scan who ask 7 mode gs (l.drop y.1) y.2.1 y.2.2 = letsF l mode uid gid who gs ask) ∧ l.length - y.1 < l.length - k ∧
              Eng.LE [] ⟨[(15, .d (.v (.int .i64 7))), (17, .clo 17 [.ptr 13 0 0 0]), (68, .d (.v (.int .i64 (k + 1 : Nat)))), (19, .d (.v (.bool good))), (5, .d (.sl 1 (rK .i64 gs))), (4, .d (.v (.int .i64 who))), (66, .d (.sl 3 (rM aceR l))), (1, .d (.v (.int .i64 mode))), (18, .d (.v (.bool any))), (67, .d (.v (.int .i64 l.length)))], [(13, ⟨0, .box [.d (.v (.int .i64 ask))]⟩)]⟩
                ⟨[(15, .d (.v (.int .i64 7))), (17, .clo 17 [.ptr 13 0 0 0]), (68, .d (.v (.int .i64 y.1))), (19, .d (.v (.bool y.2.2))), (5, .d (.sl 1 (rK .i64 gs))), (4, .d (.v (.int .i64 who))), (66, .d (.sl 3 (rM aceR l))), (1, .d (.v (.int .i64 mode))), (18, .d (.v (.bool y.2.1))), (67, .d (.v (.int .i64 l.length)))], [(13, ⟨0, .box [.d (.v (.int .i64 ask))]⟩)]⟩ :=
              ⟨(k + 1, any, good), ⟨by simp only; omega, g2⟩, by simp only; omega, LE.refl _ _⟩
            by_cases q3 : a.1 = 1
            · have c1 : (a.1 = 1) = True := eq_true q3
              have c3 : (a.2.1 = who) = False := eq_false (fun q => q1 ⟨q3, q⟩)
              simp -implicitDefEqProofs only [RL0, RL1, RL2, RL3, RL4, RL5, RL6, RL7, RL8, chkW, ↓get_cons', ↓hget_cons', ↓hset_cons', St.gh, isNil, evalA, opTs, LOp.args, Nat.reduceBEq, renS, ren1, ren0, renB, only, sg, gmOf, wrN, buildCells, bsRows, Value.oneCell', setAt, eqCells, eqCell, vI, vB, vS, apartW, Nat.reduceEqDiff, Nat.reduceAdd, Nat.reduceSub, Nat.reduceMul, Nat.reduceLT, Nat.reduceLeDiff, Int.reduceEq, Int.reduceNe, Int.reduceLT, Int.reduceLE, reduceCtorEq, ↓reduceIte, ne_eq, eq_self, and_self, str_eq_iff, Int.toNat_natCast, aceR, aceS, sh6, sh3, andI_fold, e1, e3, hA, c1, c2, c3]
              exact ⟨by omega, fin⟩
            · have c1 : (a.1 = 1) = False := eq_false q3
              simp -implicitDefEqProofs only [RL0, RL1, RL2, RL3, RL4, RL5, RL6, RL7, RL8, chkW, ↓get_cons', ↓hget_cons', ↓hset_cons', St.gh, isNil, evalA, opTs, LOp.args, Nat.reduceBEq, renS, ren1, ren0, renB, only, sg, gmOf, wrN, buildCells, bsRows, Value.oneCell', setAt, eqCells, eqCell, vI, vB, vS, apartW, Nat.reduceEqDiff, Nat.reduceAdd, Nat.reduceSub, Nat.reduceMul, Nat.reduceLT, Nat.reduceLeDiff, Int.reduceEq, Int.reduceNe, Int.reduceLT, Int.reduceLE, reduceCtorEq, ↓reduceIte, ne_eq, eq_self, and_self, str_eq_iff, Int.toNat_natCast, aceR, aceS, sh6, sh3, andI_fold, e1, e3, hA, c1, c2]
              exact ⟨by omega, fin⟩
      · have hk' : k = l.length := by omega
        subst hk'
        have e1 : ((l.length : Int) < (l.length : Int)) = False := eq_false (by omega)
        rw [List.drop_of_length_le (by omega), scan] at g2
        cases any
        · simp -implicitDefEqProofs only [RL0, RL1, RL2, RL3, RL4, RL5, RL6, RL7, RL8, chkW, ↓get_cons', ↓hget_cons', ↓hset_cons', St.gh, isNil, evalA, opTs, LOp.args, Nat.reduceBEq, renS, ren1, ren0, renB, only, sg, gmOf, wrN, buildCells, bsRows, Value.oneCell', setAt, eqCells, eqCell, vI, vB, vS, apartW, Nat.reduceEqDiff, Nat.reduceAdd, Nat.reduceSub, Nat.reduceMul, Nat.reduceLT, Nat.reduceLeDiff, Int.reduceEq, Int.reduceNe, Int.reduceLT, Int.reduceLE, reduceCtorEq, ↓reduceIte, ne_eq, eq_self, and_self, str_eq_iff, Int.toNat_natCast, aceR, aceS, sh6, sh3, andI_fold, e1]
          refine ⟨hcal, ?_⟩
          refine callL_of (lets1_spec ask mode) [(1000, 13)] false [] [] ?_ ?_
          · refine CallOk.of ?_ ?_ rfl ?_ rfl rfl rfl rfl ?_ rfl ?_ rfl
            all_goals simp [ML, args1, arg1, args0, lents1, lent1, lent0, lents0, lentB, rowsM, body0, only, sg, injB, apartB, keysOf, cur, resS, ↓get_cons', ↓hget_cons', Value.oneCell', eq_self, and_self, ne_eq, vI, rK_nil, rK_len, rK_take, rM_len, rM_take, Int.toNat_natCast, aceR, aceS, sh6, sh3, andI_fold]
          simp -implicitDefEqProofs only [RL0, RL1, RL2, RL3, RL4, RL5, RL6, RL7, RL8, chkW, ↓get_cons', ↓hget_cons', ↓hset_cons', St.gh, isNil, evalA, opTs, LOp.args, Nat.reduceBEq, renS, ren1, ren0, renB, only, sg, gmOf, wrN, buildCells, bsRows, Value.oneCell', setAt, eqCells, eqCell, vI, vB, vS, apartW, Nat.reduceEqDiff, Nat.reduceAdd, Nat.reduceSub, Nat.reduceMul, Nat.reduceLT, Nat.reduceLeDiff, Int.reduceEq, Int.reduceNe, Int.reduceLT, Int.reduceLE, reduceCtorEq, ↓reduceIte, ne_eq, eq_self, and_self, str_eq_iff, Int.toNat_natCast, aceR, aceS, sh6, sh3, andI_fold]
          exact hret _ g2.symm
        · simp -implicitDefEqProofs only [RL0, RL1, RL2, RL3, RL4, RL5, RL6, RL7, RL8, chkW, ↓get_cons', ↓hget_cons', ↓hset_cons', St.gh, isNil, evalA, opTs, LOp.args, Nat.reduceBEq, renS, ren1, ren0, renB, only, sg, gmOf, wrN, buildCells, bsRows, Value.oneCell', setAt, eqCells, eqCell, vI, vB, vS, apartW, Nat.reduceEqDiff, Nat.reduceAdd, Nat.reduceSub, Nat.reduceMul, Nat.reduceLT, Nat.reduceLeDiff, Int.reduceEq, Int.reduceNe, Int.reduceLT, Int.reduceLE, reduceCtorEq, ↓reduceIte, ne_eq, eq_self, and_self, str_eq_iff, Int.toNat_natCast, aceR, aceS, sh6, sh3, andI_fold, e1]
          exact hret _ g2.symm
    · refine callL_of (s1) [] false [] [] ?_ ?_
      · refine CallOk.of ?_ ?_ rfl ?_ rfl rfl rfl rfl ?_ rfl ?_ rfl
        all_goals simp [ML, args1, arg1, args0, lents1, lent1, lent0, lents0, lentB, rowsM, body0, only, sg, injB, apartB, keysOf, cur, resS, ↓get_cons', ↓hget_cons', Value.oneCell', eq_self, and_self, ne_eq, vI, rK_nil, rK_len, rK_take, rM_len, rM_take, Int.toNat_natCast, aceR, aceS, sh6, sh3, andI_fold]
      simp -implicitDefEqProofs only [RL0, RL1, RL2, RL3, RL4, RL5, RL6, RL7, RL8, chkW, ↓get_cons', ↓hget_cons', ↓hset_cons', St.gh, isNil, evalA, opTs, LOp.args, Nat.reduceBEq, renS, ren1, ren0, renB, only, sg, gmOf, wrN, buildCells, bsRows, Value.oneCell', setAt, eqCells, eqCell, vI, vB, vS, apartW, Nat.reduceEqDiff, Nat.reduceAdd, Nat.reduceSub, Nat.reduceMul, Nat.reduceLT, Nat.reduceLeDiff, Int.reduceEq, Int.reduceNe, Int.reduceLT, Int.reduceLE, reduceCtorEq, ↓reduceIte, ne_eq, eq_self, and_self, str_eq_iff, Int.toNat_natCast, aceR, aceS, sh6, sh3, andI_fold]
      refine ⟨hcal, ?_⟩
      refine callL_of (lets1_spec ask (andI (mode.fdiv 8) 7)) [(1000, 13)] false [] [] ?_ ?_
      · refine CallOk.of ?_ ?_ rfl ?_ rfl rfl rfl rfl ?_ rfl ?_ rfl
        all_goals simp [ML, args1, arg1, args0, lents1, lent1, lent0, lents0, lentB, rowsM, body0, only, sg, injB, apartB, keysOf, cur, resS, ↓get_cons', ↓hget_cons', Value.oneCell', eq_self, and_self, ne_eq, vI, rK_nil, rK_len, rK_take, rM_len, rM_take, Int.toNat_natCast, aceR, aceS, sh6, sh3, andI_fold]
      simp -implicitDefEqProofs only [RL0, RL1, RL2, RL3, RL4, RL5, RL6, RL7, RL8, chkW, ↓get_cons', ↓hget_cons', ↓hset_cons', St.gh, isNil, evalA, opTs, LOp.args, Nat.reduceBEq, renS, ren1, ren0, renB, only, sg, gmOf, wrN, buildCells, bsRows, Value.oneCell', setAt, eqCells, eqCell, vI, vB, vS, apartW, Nat.reduceEqDiff, Nat.reduceAdd, Nat.reduceSub, Nat.reduceMul, Nat.reduceLT, Nat.reduceLeDiff, Int.reduceEq, Int.reduceNe, Int.reduceLT, Int.reduceLE, reduceCtorEq, ↓reduceIte, ne_eq, eq_self, and_self, str_eq_iff, Int.toNat_natCast, aceR, aceS, sh6, sh3, andI_fold]
      rw [Bool.true_and] at hF
      generalize letsP ask (andI (mode.fdiv 8) 7) = gd at *
      refine vc_loop (fun x : Nat × Bool × Bool => ⟨[(15, .d (.v (.int .i64 7))), (17, .clo 17 [.ptr 13 0 0 0]), (68, .d (.v (.int .i64 x.1))), (19, .d (.v (.bool x.2.2))), (5, .d (.sl 1 (rK .i64 gs))), (4, .d (.v (.int .i64 who))), (66, .d (.sl 3 (rM aceR l))), (1, .d (.v (.int .i64 mode))), (18, .d (.v (.bool x.2.1))), (67, .d (.v (.int .i64 l.length)))], [(13, ⟨0, .box [.d (.v (.int .i64 ask))]⟩)]⟩)
        (fun x => x.1 ≤ l.length ∧ scan who ask 7 mode gs (l.drop x.1) x.2.1 x.2.2 = letsF l mode uid gid who gs ask) (fun x => l.length - x.1) (0, true, gd) ⟨by omega, hF.symm⟩ (LE.refl _ _) ?_
      rintro ⟨k, any, good⟩ ⟨g1, g2⟩
      simp only at g1 g2
      have e3 : IntKind.i64.wrap ((k : Int) + 1) = ((k + 1 : Nat) : Int) := by rw [i64_in _ (by omega)]; omega
      by_cases hk : k < l.length
      · have e1 : ((k : Int) < (l.length : Int)) = True := eq_true (by omega)
        have ha : l.getD k default = l[k] := by rw [List.getD_eq_getElem?_getD, List.getElem?_eq_getElem hk]; rfl
        rw [List.drop_eq_getElem_cons hk, ← ha, scan] at g2
        generalize hA : l.getD k default = a at g2
        by_cases q1 : a.1 = 1 ∧ a.2.1 = who
        · rw [if_pos q1] at g2
          have c1 : (a.1 = 1) = True := eq_true q1.1
          have c2 : (a.2.1 = who) = True := eq_true q1.2
          simp -implicitDefEqProofs only [RL0, RL1, RL2, RL3, RL4, RL5, RL6, RL7, RL8, chkW, ↓get_cons', ↓hget_cons', ↓hset_cons', St.gh, isNil, evalA, opTs, LOp.args, Nat.reduceBEq, renS, ren1, ren0, renB, only, sg, gmOf, wrN, buildCells, bsRows, Value.oneCell', setAt, eqCells, eqCell, vI, vB, vS, apartW, Nat.reduceEqDiff, Nat.reduceAdd, Nat.reduceSub, Nat.reduceMul, Nat.reduceLT, Nat.reduceLeDiff, Int.reduceEq, Int.reduceNe, Int.reduceLT, Int.reduceLE, reduceCtorEq, ↓reduceIte, ne_eq, eq_self, and_self, str_eq_iff, Int.toNat_natCast, aceR, aceS, sh6, sh3, andI_fold, e1, e3, hA, c1, c2]
          refine ⟨by omega, hcal, ?_⟩
          refine callL_of (lets1_spec ask (andI a.2.2 7)) [(1000, 13)] false [] [] ?_ ?_
          · refine CallOk.of ?_ ?_ rfl ?_ rfl rfl rfl rfl ?_ rfl ?_ rfl
            all_goals simp [ML, args1, arg1, args0, lents1, lent1, lent0, lents0, lentB, rowsM, body0, only, sg, injB, apartB, keysOf, cur, resS, ↓get_cons', ↓hget_cons', Value.oneCell', eq_self, and_self, ne_eq, vI, rK_nil, rK_len, rK_take, rM_len, rM_take, Int.toNat_natCast, aceR, aceS, sh6, sh3, andI_fold]
          simp -implicitDefEqProofs only [RL0, RL1, RL2, RL3, RL4, RL5, RL6, RL7, RL8, chkW, ↓get_cons', ↓hget_cons', ↓hset_cons', St.gh, isNil, evalA, opTs, LOp.args, Nat.reduceBEq, renS, ren1, ren0, renB, only, sg, gmOf, wrN, buildCells, bsRows, Value.oneCell', setAt, eqCells, eqCell, vI, vB, vS, apartW, Nat.reduceEqDiff, Nat.reduceAdd, Nat.reduceSub, Nat.reduceMul, Nat.reduceLT, Nat.reduceLeDiff, Int.reduceEq, Int.reduceNe, Int.reduceLT, Int.reduceLE, reduceCtorEq, ↓reduceIte, ne_eq, eq_self, and_self, str_eq_iff, Int.toNat_natCast, aceR, aceS, sh6, sh3, andI_fold]
          exact hret _ g2.symm
        · rw [if_neg q1] at g2
          by_cases q2 : a.1 = 2
          · have c1 : (a.1 = 1) = False := eq_false (by omega)
            have c2 : (a.1 = 2) = True := eq_true q2
            have c3 : ((2 : Int) = 1) = False := by decide
            have s2 := contains_spec gs a.2.1 hg
            simp -implicitDefEqProofs only [RL0, RL1, RL2, RL3, RL4, RL5, RL6, RL7, RL8, chkW, ↓get_cons', ↓hget_cons', ↓hset_cons', St.gh, isNil, evalA, opTs, LOp.args, Nat.reduceBEq, renS, ren1, ren0, renB, only, sg, gmOf, wrN, buildCells, bsRows, Value.oneCell', setAt, eqCells, eqCell, vI, vB, vS, apartW, Nat.reduceEqDiff, Nat.reduceAdd, Nat.reduceSub, Nat.reduceMul, Nat.reduceLT, Nat.reduceLeDiff, Int.reduceEq, Int.reduceNe, Int.reduceLT, Int.reduceLE, reduceCtorEq, ↓reduceIte, ne_eq, eq_self, and_self, str_eq_iff, Int.toNat_natCast, aceR, aceS, sh6, sh3, andI_fold, e1, e3, hA, c1, c2]
            refine ⟨by omega, ?_⟩
            by_cases hgb : a.2.1 ∈ gs
            · rw [decide_eq_true hgb] at s2
              rw [if_pos ⟨q2, hgb⟩] at g2
              refine callL_of (s2) [] false [] [] ?_ ?_
              · refine CallOk.of ?_ ?_ rfl ?_ rfl rfl rfl rfl ?_ rfl ?_ rfl
                all_goals simp [ML, args1, arg1, args0, lents1, lent1, lent0, lents0, lentB, rowsM, body0, only, sg, injB, apartB, keysOf, cur, resS, ↓get_cons', ↓hget_cons', Value.oneCell', eq_self, and_self, ne_eq, vI, rK_nil, rK_len, rK_take, rM_len, rM_take, Int.toNat_natCast, aceR, aceS, sh6, sh3, andI_fold, e3, hA]
              simp -implicitDefEqProofs only [RL0, RL1, RL2, RL3, RL4, RL5, RL6, RL7, RL8, chkW, ↓get_cons', ↓hget_cons', ↓hset_cons', St.gh, isNil, evalA, opTs, LOp.args, Nat.reduceBEq, renS, ren1, ren0, renB, only, sg, gmOf, wrN, buildCells, bsRows, Value.oneCell', setAt, eqCells, eqCell, vI, vB, vS, apartW, Nat.reduceEqDiff, Nat.reduceAdd, Nat.reduceSub, Nat.reduceMul, Nat.reduceLT, Nat.reduceLeDiff, Int.reduceEq, Int.reduceNe, Int.reduceLT, Int.reduceLE, reduceCtorEq, ↓reduceIte, ne_eq, eq_self, and_self, str_eq_iff, Int.toNat_natCast, aceR, aceS, sh6, sh3, andI_fold, e3, hA]
              cases good
              · simp -implicitDefEqProofs only [RL0, RL1, RL2, RL3, RL4, RL5, RL6, RL7, RL8, chkW, ↓get_cons', ↓hget_cons', ↓hset_cons', St.gh, isNil, evalA, opTs, LOp.args, Nat.reduceBEq, renS, ren1, ren0, renB, only, sg, gmOf, wrN, buildCells, bsRows, Value.oneCell', setAt, eqCells, eqCell, vI, vB, vS, apartW, Nat.reduceEqDiff, Nat.reduceAdd, Nat.reduceSub, Nat.reduceMul, Nat.reduceLT, Nat.reduceLeDiff, Int.reduceEq, Int.reduceNe, Int.reduceLT, Int.reduceLE, reduceCtorEq, ↓reduceIte, ne_eq, eq_self, and_self, str_eq_iff, Int.toNat_natCast, aceR, aceS, sh6, sh3, andI_fold]
                refine ⟨hcal, ?_⟩
                refine callL_of (lets1_spec ask (andI a.2.2 7)) [(1000, 13)] false [] [] ?_ ?_
                · refine CallOk.of ?_ ?_ rfl ?_ rfl rfl rfl rfl ?_ rfl ?_ rfl
                  all_goals simp [ML, args1, arg1, args0, lents1, lent1, lent0, lents0, lentB, rowsM, body0, only, sg, injB, apartB, keysOf, cur, resS, ↓get_cons', ↓hget_cons', Value.oneCell', eq_self, and_self, ne_eq, vI, rK_nil, rK_len, rK_take, rM_len, rM_take, Int.toNat_natCast, aceR, aceS, sh6, sh3, andI_fold, e3]
                simp -implicitDefEqProofs only [RL0, RL1, RL2, RL3, RL4, RL5, RL6, RL7, RL8, chkW, ↓get_cons', ↓hget_cons', ↓hset_cons', St.gh, isNil, evalA, opTs, LOp.args, Nat.reduceBEq, renS, ren1, ren0, renB, only, sg, gmOf, wrN, buildCells, bsRows, Value.oneCell', setAt, eqCells, eqCell, vI, vB, vS, apartW, Nat.reduceEqDiff, Nat.reduceAdd, Nat.reduceSub, Nat.reduceMul, Nat.reduceLT, Nat.reduceLeDiff, Int.reduceEq, Int.reduceNe, Int.reduceLT, Int.reduceLE, reduceCtorEq, ↓reduceIte, ne_eq, eq_self, and_self, str_eq_iff, Int.toNat_natCast, aceR, aceS, sh6, sh3, andI_fold, e3]
                exact ⟨(k + 1, true, _), ⟨by simp only; omega, g2⟩, by simp only; omega, LE.refl _ _⟩
              · simp -implicitDefEqProofs only [RL0, RL1, RL2, RL3, RL4, RL5, RL6, RL7, RL8, chkW, ↓get_cons', ↓hget_cons', ↓hset_cons', St.gh, isNil, evalA, opTs, LOp.args, Nat.reduceBEq, renS, ren1, ren0, renB, only, sg, gmOf, wrN, buildCells, bsRows, Value.oneCell', setAt, eqCells, eqCell, vI, vB, vS, apartW, Nat.reduceEqDiff, Nat.reduceAdd, Nat.reduceSub, Nat.reduceMul, Nat.reduceLT, Nat.reduceLeDiff, Int.reduceEq, Int.reduceNe, Int.reduceLT, Int.reduceLE, reduceCtorEq, ↓reduceIte, ne_eq, eq_self, and_self, str_eq_iff, Int.toNat_natCast, aceR, aceS, sh6, sh3, andI_fold, e3]
                exact ⟨(k + 1, true, true), ⟨by simp only; omega, g2⟩, by simp only; omega, LE.refl _ _⟩
            · rw [decide_eq_false hgb] at s2
              rw [if_neg (fun q => hgb q.2)] at g2
              refine callL_of (s2) [] false [] [] ?_ ?_
              · refine CallOk.of ?_ ?_ rfl ?_ rfl rfl rfl rfl ?_ rfl ?_ rfl
                all_goals simp [ML, args1, arg1, args0, lents1, lent1, lent0, lents0, lentB, rowsM, body0, only, sg, injB, apartB, keysOf, cur, resS, ↓get_cons', ↓hget_cons', Value.oneCell', eq_self, and_self, ne_eq, vI, rK_nil, rK_len, rK_take, rM_len, rM_take, Int.toNat_natCast, aceR, aceS, sh6, sh3, andI_fold, e3, hA]
              simp -implicitDefEqProofs only [RL0, RL1, RL2, RL3, RL4, RL5, RL6, RL7, RL8, chkW, ↓get_cons', ↓hget_cons', ↓hset_cons', St.gh, isNil, evalA, opTs, LOp.args, Nat.reduceBEq, renS, ren1, ren0, renB, only, sg, gmOf, wrN, buildCells, bsRows, Value.oneCell', setAt, eqCells, eqCell, vI, vB, vS, apartW, Nat.reduceEqDiff, Nat.reduceAdd, Nat.reduceSub, Nat.reduceMul, Nat.reduceLT, Nat.reduceLeDiff, Int.reduceEq, Int.reduceNe, Int.reduceLT, Int.reduceLE, reduceCtorEq, ↓reduceIte, ne_eq, eq_self, and_self, str_eq_iff, Int.toNat_natCast, aceR, aceS, sh6, sh3, andI_fold, e3, hA]
              exact ⟨(k + 1, any, good), ⟨by simp only; omega, g2⟩, by simp only; omega, LE.refl _ _⟩
          · rw [if_neg (fun q => q2 q.1)] at g2
            have c2 : (a.1 = 2) = False := eq_false q2
            have fin : ∃ y : Nat × Bool × Bool, (y.1 ≤ l.length ∧ scan who ask 7 mode gs (l.drop y.1) y.2.1 y.2.2 = letsF l mode uid gid who gs ask) ∧ l.length - y.1 < l.length - k ∧
              Eng.LE [] ⟨[(15, .d (.v (.int .i64 7))), (17, .clo 17 [.ptr 13 0 0 0]), (68, .d (.v (.int .i64 (k + 1 : Nat)))), (19, .d (.v (.bool good))), (5, .d (.sl 1 (rK .i64 gs))), (4, .d (.v (.int .i64 who))), (66, .d (.sl 3 (rM aceR l))), (1, .d (.v (.int .i64 mode))), (18, .d (.v (.bool any))), (67, .d (.v (.int .i64 l.length)))], [(13, ⟨0, .box [.d (.v (.int .i64 ask))]⟩)]⟩
                ⟨[(15, .d (.v (.int .i64 7))), (17, .clo 17 [.ptr 13 0 0 0]), (68, .d (.v (.int .i64 y.1))), (19, .d (.v (.bool y.2.2))), (5, .d (.sl 1 (rK .i64 gs))), (4, .d (.v (.int .i64 who))), (66, .d (.sl 3 (rM aceR l))), (1, .d (.v (.int .i64 mode))), (18, .d (.v (.bool y.2.1))), (67, .d (.v (.int .i64 l.length)))], [(13, ⟨0, .box [.d (.v (.int .i64 ask))]⟩)]⟩ :=
              ⟨(k + 1, any, good), ⟨by simp only; omega, g2⟩, by simp only; omega, LE.refl _ _⟩
            by_cases q3 : a.1 = 1
            · have c1 : (a.1 = 1) = True := eq_true q3
              have c3 : (a.2.1 = who) = False := eq_false (fun q => q1 ⟨q3, q⟩)
              simp -implicitDefEqProofs only [RL0, RL1, RL2, RL3, RL4, RL5, RL6, RL7, RL8, chkW, ↓get_cons', ↓hget_cons', ↓hset_cons', St.gh, isNil, evalA, opTs, LOp.args, Nat.reduceBEq, renS, ren1, ren0, renB, only, sg, gmOf, wrN, buildCells, bsRows, Value.oneCell', setAt, eqCells, eqCell, vI, vB, vS, apartW, Nat.reduceEqDiff, Nat.reduceAdd, Nat.reduceSub, Nat.reduceMul, Nat.reduceLT, Nat.reduceLeDiff, Int.reduceEq, Int.reduceNe, Int.reduceLT, Int.reduceLE, reduceCtorEq, ↓reduceIte, ne_eq, eq_self, and_self, str_eq_iff, Int.toNat_natCast, aceR, aceS, sh6, sh3, andI_fold, e1, e3, hA, c1, c2, c3]
              exact ⟨by omega, fin⟩
            · have c1 : (a.1 = 1) = False := eq_false q3
              simp -implicitDefEqProofs only [RL0, RL1, RL2, RL3, RL4, RL5, RL6, RL7, RL8, chkW, ↓get_cons', ↓hget_cons', ↓hset_cons', St.gh, isNil, evalA, opTs, LOp.args, Nat.reduceBEq, renS, ren1, ren0, renB, only, sg, gmOf, wrN, buildCells, bsRows, Value.oneCell', setAt, eqCells, eqCell, vI, vB, vS, apartW, Nat.reduceEqDiff, Nat.reduceAdd, Nat.reduceSub, Nat.reduceMul, Nat.reduceLT, Nat.reduceLeDiff, Int.reduceEq, Int.reduceNe, Int.reduceLT, Int.reduceLE, reduceCtorEq, ↓reduceIte, ne_eq, eq_self, and_self, str_eq_iff, Int.toNat_natCast, aceR, aceS, sh6, sh3, andI_fold, e1, e3, hA, c1, c2]
              exact ⟨by omega, fin⟩
      · have hk' : k = l.length := by omega
        subst hk'
        have e1 : ((l.length : Int) < (l.length : Int)) = False := eq_false (by omega)
        rw [List.drop_of_length_le (by omega), scan] at g2
        cases any
        · simp -implicitDefEqProofs only [RL0, RL1, RL2, RL3, RL4, RL5, RL6, RL7, RL8, chkW, ↓get_cons', ↓hget_cons', ↓hset_cons', St.gh, isNil, evalA, opTs, LOp.args, Nat.reduceBEq, renS, ren1, ren0, renB, only, sg, gmOf, wrN, buildCells, bsRows, Value.oneCell', setAt, eqCells, eqCell, vI, vB, vS, apartW, Nat.reduceEqDiff, Nat.reduceAdd, Nat.reduceSub, Nat.reduceMul, Nat.reduceLT, Nat.reduceLeDiff, Int.reduceEq, Int.reduceNe, Int.reduceLT, Int.reduceLE, reduceCtorEq, ↓reduceIte, ne_eq, eq_self, and_self, str_eq_iff, Int.toNat_natCast, aceR, aceS, sh6, sh3, andI_fold, e1]
          refine ⟨hcal, ?_⟩
          refine callL_of (lets1_spec ask mode) [(1000, 13)] false [] [] ?_ ?_
          · refine CallOk.of ?_ ?_ rfl ?_ rfl rfl rfl rfl ?_ rfl ?_ rfl
            all_goals simp [ML, args1, arg1, args0, lents1, lent1, lent0, lents0, lentB, rowsM, body0, only, sg, injB, apartB, keysOf, cur, resS, ↓get_cons', ↓hget_cons', Value.oneCell', eq_self, and_self, ne_eq, vI, rK_nil, rK_len, rK_take, rM_len, rM_take, Int.toNat_natCast, aceR, aceS, sh6, sh3, andI_fold]
          simp -implicitDefEqProofs only [RL0, RL1, RL2, RL3, RL4, RL5, RL6, RL7, RL8, chkW, ↓get_cons', ↓hget_cons', ↓hset_cons', St.gh, isNil, evalA, opTs, LOp.args, Nat.reduceBEq, renS, ren1, ren0, renB, only, sg, gmOf, wrN, buildCells, bsRows, Value.oneCell', setAt, eqCells, eqCell, vI, vB, vS, apartW, Nat.reduceEqDiff, Nat.reduceAdd, Nat.reduceSub, Nat.reduceMul, Nat.reduceLT, Nat.reduceLeDiff, Int.reduceEq, Int.reduceNe, Int.reduceLT, Int.reduceLE, reduceCtorEq, ↓reduceIte, ne_eq, eq_self, and_self, str_eq_iff, Int.toNat_natCast, aceR, aceS, sh6, sh3, andI_fold]
          exact hret _ g2.symm
        · simp -implicitDefEqProofs only [RL0, RL1, RL2, RL3, RL4, RL5, RL6, RL7, RL8, chkW, ↓get_cons', ↓hget_cons', ↓hset_cons', St.gh, isNil, evalA, opTs, LOp.args, Nat.reduceBEq, renS, ren1, ren0, renB, only, sg, gmOf, wrN, buildCells, bsRows, Value.oneCell', setAt, eqCells, eqCell, vI, vB, vS, apartW, Nat.reduceEqDiff, Nat.reduceAdd, Nat.reduceSub, Nat.reduceMul, Nat.reduceLT, Nat.reduceLeDiff, Int.reduceEq, Int.reduceNe, Int.reduceLT, Int.reduceLE, reduceCtorEq, ↓reduceIte, ne_eq, eq_self, and_self, str_eq_iff, Int.toNat_natCast, aceR, aceS, sh6, sh3, andI_fold, e1]
          exact hret _ g2.symm
end Go.Proofs.Ac
