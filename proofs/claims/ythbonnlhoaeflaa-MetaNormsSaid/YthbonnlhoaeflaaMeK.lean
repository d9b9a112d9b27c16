import Derived.Test.YthbonnlhoaeflaaMeJ
set_option linter.unusedVariables false
set_option linter.unusedSimpArgs false
-- DEFS flip, take_snoc, attr_snoc, ace_snoc, Int.toNat_natCast, attrS, attrR, aceS, aceR, metaS, metaC
namespace Go.Proofs.Me
open Go.RowKit Go.Lib Go.Eng Go.Proofs Go.IntWalk
set_option maxRecDepth 100000
set_option maxHeartbeats 4000000
theorem ofInt_wrap (n : Int) : BitVec.ofInt 64 (IntKind.i64.wrap n) = BitVec.ofInt 64 n := by
  apply BitVec.eq_of_toNat_eq
  rw [BitVec.toNat_ofInt, BitVec.toNat_ofInt]
  unfold IntKind.wrap
  simp only [IntKind.signed, IntKind.bits, Bool.true_and]
  split <;> omega
def flip (x : Int) : Int := IntKind.i64.wrap (BitVec.ofInt IntKind.i64.bits x ^^^ BitVec.ofInt IntKind.i64.bits 1).toNat
theorem flip_ne (x : Int) : x ≠ flip x := by
  intro h
  have h2 := congrArg (BitVec.ofInt 64) h
  unfold flip at h2
  rw [ofInt_wrap] at h2
  have h3 : BitVec.ofInt 64 (((BitVec.ofInt IntKind.i64.bits x ^^^ BitVec.ofInt IntKind.i64.bits 1).toNat : Nat) : Int) = BitVec.ofInt 64 x ^^^ 1#64 := by
    rw [BitVec.ofInt_natCast]
    exact BitVec.ofNat_toNat _ _ |>.trans (by simp [IntKind.bits]; rfl)
  rw [h3] at h2
  have h4 : BitVec.ofInt 64 x ^^^ BitVec.ofInt 64 x = BitVec.ofInt 64 x ^^^ (BitVec.ofInt 64 x ^^^ 1#64) := by rw [← h2]
  rw [← BitVec.xor_assoc, BitVec.xor_self, BitVec.zero_xor] at h4
  exact absurd h4 (by decide)
theorem ace_snoc (l : List Ac) (a b c : Int) : rM aceR l ++ [[.v (.int .i64 a), .v (.int .i64 b), .v (.int .i64 c)]] = rM aceR (l ++ [(a, b, c)]) := by simp [rM, aceR]
theorem take_snoc {α : Type} (l : List α) (x : α) : List.take (l.length + 1) (l ++ [x]) = l ++ [x] := List.take_of_length_le (by simp)
theorem snoc_ne {α : Type} (l : List α) (x : α) : l ≠ l ++ [x] := fun h => by have := congrArg List.length h; simp at this
theorem parts_spec (m : M) (part : Int) (hs : smallM m) : Eng.Spec Try.prog 7 [] [] [metaS m, .d (.v (.int .i64 part))] [] (.d (.v (.bool true))) := by
  refine told_spec mixed f7_told f7_results f7_text rfl (by simp) rfl ?_
  simp only [initS, List.length_cons, List.length_nil, List.range, List.range.loop, List.getD_cons_zero, List.getD_cons_succ, List.cons_append, List.nil_append, flip, take_snoc, attr_snoc, ace_snoc, Int.toNat_natCast, attrS, attrR, aceS, aceR, metaS, metaC]
  simp -implicitDefEqProofs only [RL0, RL1, RL2, RL3, RL4, RL5, RL6, RL7, RL8, chkW, ↓get_cons', ↓hget_cons', ↓hset_cons', St.gh, isNil, evalA, opTs, LOp.args, Nat.reduceBEq, renS, ren1, ren0, renB, only, sg, gmOf, wrN, buildCells, bsRows, Value.oneCell', setAt, eqCells, eqCell, vI, vB, vS, apartW, Nat.reduceEqDiff, Nat.reduceAdd, Nat.reduceSub, Nat.reduceMul, Nat.reduceLT, Nat.reduceLeDiff, Int.reduceEq, Int.reduceNe, Int.reduceLT, Int.reduceLE, reduceCtorEq, ↓reduceIte, ne_eq, eq_self, and_self, str_eq_iff]
  refine callL_of (few_spec m hs) [] false [] [] ?_ ?_
  · refine CallOk.of ?_ ?_ rfl ?_ rfl rfl rfl rfl ?_ rfl ?_ rfl
    all_goals simp [ML, args1, arg1, args0, lents1, lent1, lent0, lents0, lentB, rowsM, body0, only, sg, injB, apartB, keysOf, cur, resS, ↓get_cons', ↓hget_cons', Value.oneCell', eq_self, and_self, ne_eq, vI, rK_nil, rK_len, rK_take, rM_len, rM_take, flip, take_snoc, attr_snoc, ace_snoc, Int.toNat_natCast, attrS, attrR, aceS, aceR, metaS, metaC]
  simp -implicitDefEqProofs only [RL0, RL1, RL2, RL3, RL4, RL5, RL6, RL7, RL8, chkW, ↓get_cons', ↓hget_cons', ↓hset_cons', St.gh, isNil, evalA, opTs, LOp.args, Nat.reduceBEq, renS, ren1, ren0, renB, only, sg, gmOf, wrN, buildCells, bsRows, Value.oneCell', setAt, eqCells, eqCell, vI, vB, vS, apartW, Nat.reduceEqDiff, Nat.reduceAdd, Nat.reduceSub, Nat.reduceMul, Nat.reduceLT, Nat.reduceLeDiff, Int.reduceEq, Int.reduceNe, Int.reduceLT, Int.reduceLE, reduceCtorEq, ↓reduceIte, ne_eq, eq_self, and_self, str_eq_iff, flip, take_snoc, attr_snoc, ace_snoc, Int.toNat_natCast, attrS, attrR, aceS, aceR, metaS, metaC]
  refine ⟨fun h1 => ?_, fun h1 => ?_⟩
  · refine callL_of (may_spec m hs) [] false [] [] ?_ ?_
    · refine CallOk.of ?_ ?_ rfl ?_ rfl rfl rfl rfl ?_ rfl ?_ rfl
      all_goals simp [ML, args1, arg1, args0, lents1, lent1, lent0, lents0, lentB, rowsM, body0, only, sg, injB, apartB, keysOf, cur, resS, ↓get_cons', ↓hget_cons', Value.oneCell', eq_self, and_self, ne_eq, vI, rK_nil, rK_len, rK_take, rM_len, rM_take, flip, take_snoc, attr_snoc, ace_snoc, Int.toNat_natCast, attrS, attrR, aceS, aceR, metaS, metaC]
    simp -implicitDefEqProofs only [RL0, RL1, RL2, RL3, RL4, RL5, RL6, RL7, RL8, chkW, ↓get_cons', ↓hget_cons', ↓hset_cons', St.gh, isNil, evalA, opTs, LOp.args, Nat.reduceBEq, renS, ren1, ren0, renB, only, sg, gmOf, wrN, buildCells, bsRows, Value.oneCell', setAt, eqCells, eqCell, vI, vB, vS, apartW, Nat.reduceEqDiff, Nat.reduceAdd, Nat.reduceSub, Nat.reduceMul, Nat.reduceLT, Nat.reduceLeDiff, Int.reduceEq, Int.reduceNe, Int.reduceLT, Int.reduceLE, reduceCtorEq, ↓reduceIte, ne_eq, eq_self, and_self, str_eq_iff, flip, take_snoc, attr_snoc, ace_snoc, Int.toNat_natCast, attrS, attrR, aceS, aceR, metaS, metaC]
    refine ⟨fun h2 => ?_, fun h2 => ?_⟩
    · refine callL_of (told_spec20) [] false [] [] ?_ ?_
      · refine CallOk.of ?_ ?_ rfl ?_ rfl rfl rfl rfl ?_ rfl ?_ rfl
        all_goals simp [ML, args1, arg1, args0, lents1, lent1, lent0, lents0, lentB, rowsM, body0, only, sg, injB, apartB, keysOf, cur, resS, ↓get_cons', ↓hget_cons', Value.oneCell', eq_self, and_self, ne_eq, vI, rK_nil, rK_len, rK_take, rM_len, rM_take, flip, take_snoc, attr_snoc, ace_snoc, Int.toNat_natCast, attrS, attrR, aceS, aceR, metaS, metaC]
      simp -implicitDefEqProofs only [RL0, RL1, RL2, RL3, RL4, RL5, RL6, RL7, RL8, chkW, ↓get_cons', ↓hget_cons', ↓hset_cons', St.gh, isNil, evalA, opTs, LOp.args, Nat.reduceBEq, renS, ren1, ren0, renB, only, sg, gmOf, wrN, buildCells, bsRows, Value.oneCell', setAt, eqCells, eqCell, vI, vB, vS, apartW, Nat.reduceEqDiff, Nat.reduceAdd, Nat.reduceSub, Nat.reduceMul, Nat.reduceLT, Nat.reduceLeDiff, Int.reduceEq, Int.reduceNe, Int.reduceLT, Int.reduceLE, reduceCtorEq, ↓reduceIte, ne_eq, eq_self, and_self, str_eq_iff, flip, take_snoc, attr_snoc, ace_snoc, Int.toNat_natCast, attrS, attrR, aceS, aceR, metaS, metaC]
      refine RetOk.of [] [] ?_ ?_ rfl ?_ rfl rfl ?_
      all_goals simp [ML, args1, arg1, args0, lents1, lent1, lent0, lents0, lentB, rowsM, body0, only, sg, injB, apartB, keysOf, cur, resS, ↓get_cons', ↓hget_cons', Value.oneCell', eq_self, and_self, ne_eq, vI, rK_nil, flip, take_snoc, attr_snoc, ace_snoc, Int.toNat_natCast, attrS, attrR, aceS, aceR, metaS, metaC]
    · refine callL_of (copy_spec m hs) [(1000, 17), (1001, 117)] false [] [] ?_ ?_
      · refine CallOk.of ?_ ?_ rfl ?_ rfl rfl rfl rfl ?_ rfl ?_ rfl
        all_goals simp [ML, args1, arg1, args0, lents1, lent1, lent0, lents0, lentB, rowsM, body0, only, sg, injB, apartB, keysOf, cur, resS, ↓get_cons', ↓hget_cons', Value.oneCell', eq_self, and_self, ne_eq, vI, rK_nil, rK_len, rK_take, rM_len, rM_take, flip, take_snoc, attr_snoc, ace_snoc, Int.toNat_natCast, attrS, attrR, aceS, aceR, metaS, metaC]
      simp -implicitDefEqProofs only [RL0, RL1, RL2, RL3, RL4, RL5, RL6, RL7, RL8, chkW, ↓get_cons', ↓hget_cons', ↓hset_cons', St.gh, isNil, evalA, opTs, LOp.args, Nat.reduceBEq, renS, ren1, ren0, renB, only, sg, gmOf, wrN, buildCells, bsRows, Value.oneCell', setAt, eqCells, eqCell, vI, vB, vS, apartW, Nat.reduceEqDiff, Nat.reduceAdd, Nat.reduceSub, Nat.reduceMul, Nat.reduceLT, Nat.reduceLeDiff, Int.reduceEq, Int.reduceNe, Int.reduceLT, Int.reduceLE, reduceCtorEq, ↓reduceIte, ne_eq, eq_self, and_self, str_eq_iff, flip, take_snoc, attr_snoc, ace_snoc, Int.toNat_natCast, attrS, attrR, aceS, aceR, metaS, metaC]
      have hf : few m := Decidable.not_not.1 h1
      have hl := hf.2
      refine ⟨fun _ => ?_, fun _ => ⟨fun _ => ?_, fun _ => ⟨fun _ => ?_, fun _ => ⟨fun _ => ?_, fun _ => ⟨fun _ => ?_, fun _ => ?_⟩⟩⟩⟩⟩
      · have hn : smallM (⟨flip m.mode, m.uid, m.gid, m.time, m.attrs, m.acl⟩ : M) := by constructor <;> (simp only [List.length_append, List.length_cons, List.length_nil]; first | omega | exact hs.1 | exact hs.2)
        have d1 : diff m (⟨flip m.mode, m.uid, m.gid, m.time, m.attrs, m.acl⟩ : M) = (⟨#[109, 111, 100, 101]⟩ : ByteArray) := by simp [diff, flip_ne, snoc_ne]
        have d2 : diff (⟨flip m.mode, m.uid, m.gid, m.time, m.attrs, m.acl⟩ : M) m = (⟨#[109, 111, 100, 101]⟩ : ByteArray) := by simp [diff, Ne.symm (flip_ne _), Ne.symm (snoc_ne _ _)]
        have d3 : ((⟨#[109, 111, 100, 101]⟩ : ByteArray) = ⟨#[]⟩) = False := eq_false (by decide)
        have s1 := diff_spec m (⟨flip m.mode, m.uid, m.gid, m.time, m.attrs, m.acl⟩ : M) hs hn
        have s2 := diff_spec (⟨flip m.mode, m.uid, m.gid, m.time, m.attrs, m.acl⟩ : M) m hn hs
        have s3 := samem_spec m (⟨flip m.mode, m.uid, m.gid, m.time, m.attrs, m.acl⟩ : M) hs hn
        rw [d1] at s1
        rw [d2] at s2
        simp only [d1, d3, decide_false] at s3
        refine callL_of (told_spec20) [] false [] [] ?_ ?_
        · refine CallOk.of ?_ ?_ rfl ?_ rfl rfl rfl rfl ?_ rfl ?_ rfl
          all_goals simp [ML, args1, arg1, args0, lents1, lent1, lent0, lents0, lentB, rowsM, body0, only, sg, injB, apartB, keysOf, cur, resS, ↓get_cons', ↓hget_cons', Value.oneCell', eq_self, and_self, ne_eq, vI, rK_nil, rK_len, rK_take, rM_len, rM_take, flip, take_snoc, attr_snoc, ace_snoc, Int.toNat_natCast, attrS, attrR, aceS, aceR, metaS, metaC]
        simp -implicitDefEqProofs only [RL0, RL1, RL2, RL3, RL4, RL5, RL6, RL7, RL8, chkW, ↓get_cons', ↓hget_cons', ↓hset_cons', St.gh, isNil, evalA, opTs, LOp.args, Nat.reduceBEq, renS, ren1, ren0, renB, only, sg, gmOf, wrN, buildCells, bsRows, Value.oneCell', setAt, eqCells, eqCell, vI, vB, vS, apartW, Nat.reduceEqDiff, Nat.reduceAdd, Nat.reduceSub, Nat.reduceMul, Nat.reduceLT, Nat.reduceLeDiff, Int.reduceEq, Int.reduceNe, Int.reduceLT, Int.reduceLE, reduceCtorEq, ↓reduceIte, ne_eq, eq_self, and_self, str_eq_iff, flip, take_snoc, attr_snoc, ace_snoc, Int.toNat_natCast, attrS, attrR, aceS, aceR, metaS, metaC]
        refine callL_of (s1) [] true [17, 117] [] ?_ ?_
        · refine CallOk.of ?_ ?_ rfl ?_ rfl rfl rfl rfl ?_ rfl ?_ rfl
          all_goals simp [ML, args1, arg1, args0, lents1, lent1, lent0, lents0, lentB, rowsM, body0, only, sg, injB, apartB, keysOf, cur, resS, ↓get_cons', ↓hget_cons', Value.oneCell', eq_self, and_self, ne_eq, vI, rK_nil, rK_len, rK_take, rM_len, rM_take, flip, take_snoc, attr_snoc, ace_snoc, Int.toNat_natCast, attrS, attrR, aceS, aceR, metaS, metaC, S.flat2, S.flat1, S.flat, Body.flat, rM_flat, rA_flat]
        simp -implicitDefEqProofs only [RL0, RL1, RL2, RL3, RL4, RL5, RL6, RL7, RL8, chkW, ↓get_cons', ↓hget_cons', ↓hset_cons', St.gh, isNil, evalA, opTs, LOp.args, Nat.reduceBEq, renS, ren1, ren0, renB, only, sg, gmOf, wrN, buildCells, bsRows, Value.oneCell', setAt, eqCells, eqCell, vI, vB, vS, apartW, Nat.reduceEqDiff, Nat.reduceAdd, Nat.reduceSub, Nat.reduceMul, Nat.reduceLT, Nat.reduceLeDiff, Int.reduceEq, Int.reduceNe, Int.reduceLT, Int.reduceLE, reduceCtorEq, ↓reduceIte, ne_eq, eq_self, and_self, str_eq_iff, flip, take_snoc, attr_snoc, ace_snoc, Int.toNat_natCast, attrS, attrR, aceS, aceR, metaS, metaC]
        refine callL_of (s2) [] true [17, 117] [] ?_ ?_
        · refine CallOk.of ?_ ?_ rfl ?_ rfl rfl rfl rfl ?_ rfl ?_ rfl
          all_goals simp [ML, args1, arg1, args0, lents1, lent1, lent0, lents0, lentB, rowsM, body0, only, sg, injB, apartB, keysOf, cur, resS, ↓get_cons', ↓hget_cons', Value.oneCell', eq_self, and_self, ne_eq, vI, rK_nil, rK_len, rK_take, rM_len, rM_take, flip, take_snoc, attr_snoc, ace_snoc, Int.toNat_natCast, attrS, attrR, aceS, aceR, metaS, metaC, S.flat2, S.flat1, S.flat, Body.flat, rM_flat, rA_flat]
        simp -implicitDefEqProofs only [RL0, RL1, RL2, RL3, RL4, RL5, RL6, RL7, RL8, chkW, ↓get_cons', ↓hget_cons', ↓hset_cons', St.gh, isNil, evalA, opTs, LOp.args, Nat.reduceBEq, renS, ren1, ren0, renB, only, sg, gmOf, wrN, buildCells, bsRows, Value.oneCell', setAt, eqCells, eqCell, vI, vB, vS, apartW, Nat.reduceEqDiff, Nat.reduceAdd, Nat.reduceSub, Nat.reduceMul, Nat.reduceLT, Nat.reduceLeDiff, Int.reduceEq, Int.reduceNe, Int.reduceLT, Int.reduceLE, reduceCtorEq, ↓reduceIte, ne_eq, eq_self, and_self, str_eq_iff, flip, take_snoc, attr_snoc, ace_snoc, Int.toNat_natCast, attrS, attrR, aceS, aceR, metaS, metaC]
        refine callL_of (s3) [] true [17, 117] [] ?_ ?_
        · refine CallOk.of ?_ ?_ rfl ?_ rfl rfl rfl rfl ?_ rfl ?_ rfl
          all_goals simp [ML, args1, arg1, args0, lents1, lent1, lent0, lents0, lentB, rowsM, body0, only, sg, injB, apartB, keysOf, cur, resS, ↓get_cons', ↓hget_cons', Value.oneCell', eq_self, and_self, ne_eq, vI, rK_nil, rK_len, rK_take, rM_len, rM_take, flip, take_snoc, attr_snoc, ace_snoc, Int.toNat_natCast, attrS, attrR, aceS, aceR, metaS, metaC, S.flat2, S.flat1, S.flat, Body.flat, rM_flat, rA_flat]
        simp -implicitDefEqProofs only [RL0, RL1, RL2, RL3, RL4, RL5, RL6, RL7, RL8, chkW, ↓get_cons', ↓hget_cons', ↓hset_cons', St.gh, isNil, evalA, opTs, LOp.args, Nat.reduceBEq, renS, ren1, ren0, renB, only, sg, gmOf, wrN, buildCells, bsRows, Value.oneCell', setAt, eqCells, eqCell, vI, vB, vS, apartW, Nat.reduceEqDiff, Nat.reduceAdd, Nat.reduceSub, Nat.reduceMul, Nat.reduceLT, Nat.reduceLeDiff, Int.reduceEq, Int.reduceNe, Int.reduceLT, Int.reduceLE, reduceCtorEq, ↓reduceIte, ne_eq, eq_self, and_self, str_eq_iff, flip, take_snoc, attr_snoc, ace_snoc, Int.toNat_natCast, attrS, attrR, aceS, aceR, metaS, metaC]
        refine RetOk.of [] [] ?_ ?_ rfl ?_ rfl rfl ?_
        all_goals simp [ML, args1, arg1, args0, lents1, lent1, lent0, lents0, lentB, rowsM, body0, only, sg, injB, apartB, keysOf, cur, resS, ↓get_cons', ↓hget_cons', Value.oneCell', eq_self, and_self, ne_eq, vI, rK_nil, flip, take_snoc, attr_snoc, ace_snoc, Int.toNat_natCast, attrS, attrR, aceS, aceR, metaS, metaC]
      · have hn : smallM (⟨m.mode, flip m.uid, m.gid, m.time, m.attrs, m.acl⟩ : M) := by constructor <;> (simp only [List.length_append, List.length_cons, List.length_nil]; first | omega | exact hs.1 | exact hs.2)
        have d1 : diff m (⟨m.mode, flip m.uid, m.gid, m.time, m.attrs, m.acl⟩ : M) = (⟨#[117, 105, 100]⟩ : ByteArray) := by simp [diff, flip_ne, snoc_ne]
        have d2 : diff (⟨m.mode, flip m.uid, m.gid, m.time, m.attrs, m.acl⟩ : M) m = (⟨#[117, 105, 100]⟩ : ByteArray) := by simp [diff, Ne.symm (flip_ne _), Ne.symm (snoc_ne _ _)]
        have d3 : ((⟨#[117, 105, 100]⟩ : ByteArray) = ⟨#[]⟩) = False := eq_false (by decide)
        have s1 := diff_spec m (⟨m.mode, flip m.uid, m.gid, m.time, m.attrs, m.acl⟩ : M) hs hn
        have s2 := diff_spec (⟨m.mode, flip m.uid, m.gid, m.time, m.attrs, m.acl⟩ : M) m hn hs
        have s3 := samem_spec m (⟨m.mode, flip m.uid, m.gid, m.time, m.attrs, m.acl⟩ : M) hs hn
        rw [d1] at s1
        rw [d2] at s2
        simp only [d1, d3, decide_false] at s3
        refine callL_of (told_spec20) [] false [] [] ?_ ?_
        · refine CallOk.of ?_ ?_ rfl ?_ rfl rfl rfl rfl ?_ rfl ?_ rfl
          all_goals simp [ML, args1, arg1, args0, lents1, lent1, lent0, lents0, lentB, rowsM, body0, only, sg, injB, apartB, keysOf, cur, resS, ↓get_cons', ↓hget_cons', Value.oneCell', eq_self, and_self, ne_eq, vI, rK_nil, rK_len, rK_take, rM_len, rM_take, flip, take_snoc, attr_snoc, ace_snoc, Int.toNat_natCast, attrS, attrR, aceS, aceR, metaS, metaC]
        simp -implicitDefEqProofs only [RL0, RL1, RL2, RL3, RL4, RL5, RL6, RL7, RL8, chkW, ↓get_cons', ↓hget_cons', ↓hset_cons', St.gh, isNil, evalA, opTs, LOp.args, Nat.reduceBEq, renS, ren1, ren0, renB, only, sg, gmOf, wrN, buildCells, bsRows, Value.oneCell', setAt, eqCells, eqCell, vI, vB, vS, apartW, Nat.reduceEqDiff, Nat.reduceAdd, Nat.reduceSub, Nat.reduceMul, Nat.reduceLT, Nat.reduceLeDiff, Int.reduceEq, Int.reduceNe, Int.reduceLT, Int.reduceLE, reduceCtorEq, ↓reduceIte, ne_eq, eq_self, and_self, str_eq_iff, flip, take_snoc, attr_snoc, ace_snoc, Int.toNat_natCast, attrS, attrR, aceS, aceR, metaS, metaC]
        refine callL_of (s1) [] true [17, 117] [] ?_ ?_
        · refine CallOk.of ?_ ?_ rfl ?_ rfl rfl rfl rfl ?_ rfl ?_ rfl
          all_goals simp [ML, args1, arg1, args0, lents1, lent1, lent0, lents0, lentB, rowsM, body0, only, sg, injB, apartB, keysOf, cur, resS, ↓get_cons', ↓hget_cons', Value.oneCell', eq_self, and_self, ne_eq, vI, rK_nil, rK_len, rK_take, rM_len, rM_take, flip, take_snoc, attr_snoc, ace_snoc, Int.toNat_natCast, attrS, attrR, aceS, aceR, metaS, metaC, S.flat2, S.flat1, S.flat, Body.flat, rM_flat, rA_flat]
        simp -implicitDefEqProofs only [RL0, RL1, RL2, RL3, RL4, RL5, RL6, RL7, RL8, chkW, ↓get_cons', ↓hget_cons', ↓hset_cons', St.gh, isNil, evalA, opTs, LOp.args, Nat.reduceBEq, renS, ren1, ren0, renB, only, sg, gmOf, wrN, buildCells, bsRows, Value.oneCell', setAt, eqCells, eqCell, vI, vB, vS, apartW, Nat.reduceEqDiff, Nat.reduceAdd, Nat.reduceSub, Nat.reduceMul, Nat.reduceLT, Nat.reduceLeDiff, Int.reduceEq, Int.reduceNe, Int.reduceLT, Int.reduceLE, reduceCtorEq, ↓reduceIte, ne_eq, eq_self, and_self, str_eq_iff, flip, take_snoc, attr_snoc, ace_snoc, Int.toNat_natCast, attrS, attrR, aceS, aceR, metaS, metaC]
        refine callL_of (s2) [] true [17, 117] [] ?_ ?_
        · refine CallOk.of ?_ ?_ rfl ?_ rfl rfl rfl rfl ?_ rfl ?_ rfl
          all_goals simp [ML, args1, arg1, args0, lents1, lent1, lent0, lents0, lentB, rowsM, body0, only, sg, injB, apartB, keysOf, cur, resS, ↓get_cons', ↓hget_cons', Value.oneCell', eq_self, and_self, ne_eq, vI, rK_nil, rK_len, rK_take, rM_len, rM_take, flip, take_snoc, attr_snoc, ace_snoc, Int.toNat_natCast, attrS, attrR, aceS, aceR, metaS, metaC, S.flat2, S.flat1, S.flat, Body.flat, rM_flat, rA_flat]
        simp -implicitDefEqProofs only [RL0, RL1, RL2, RL3, RL4, RL5, RL6, RL7, RL8, chkW, ↓get_cons', ↓hget_cons', ↓hset_cons', St.gh, isNil, evalA, opTs, LOp.args, Nat.reduceBEq, renS, ren1, ren0, renB, only, sg, gmOf, wrN, buildCells, bsRows, Value.oneCell', setAt, eqCells, eqCell, vI, vB, vS, apartW, Nat.reduceEqDiff, Nat.reduceAdd, Nat.reduceSub, Nat.reduceMul, Nat.reduceLT, Nat.reduceLeDiff, Int.reduceEq, Int.reduceNe, Int.reduceLT, Int.reduceLE, reduceCtorEq, ↓reduceIte, ne_eq, eq_self, and_self, str_eq_iff, flip, take_snoc, attr_snoc, ace_snoc, Int.toNat_natCast, attrS, attrR, aceS, aceR, metaS, metaC]
        refine callL_of (s3) [] true [17, 117] [] ?_ ?_
        · refine CallOk.of ?_ ?_ rfl ?_ rfl rfl rfl rfl ?_ rfl ?_ rfl
          all_goals simp [ML, args1, arg1, args0, lents1, lent1, lent0, lents0, lentB, rowsM, body0, only, sg, injB, apartB, keysOf, cur, resS, ↓get_cons', ↓hget_cons', Value.oneCell', eq_self, and_self, ne_eq, vI, rK_nil, rK_len, rK_take, rM_len, rM_take, flip, take_snoc, attr_snoc, ace_snoc, Int.toNat_natCast, attrS, attrR, aceS, aceR, metaS, metaC, S.flat2, S.flat1, S.flat, Body.flat, rM_flat, rA_flat]
        simp -implicitDefEqProofs only [RL0, RL1, RL2, RL3, RL4, RL5, RL6, RL7, RL8, chkW, ↓get_cons', ↓hget_cons', ↓hset_cons', St.gh, isNil, evalA, opTs, LOp.args, Nat.reduceBEq, renS, ren1, ren0, renB, only, sg, gmOf, wrN, buildCells, bsRows, Value.oneCell', setAt, eqCells, eqCell, vI, vB, vS, apartW, Nat.reduceEqDiff, Nat.reduceAdd, Nat.reduceSub, Nat.reduceMul, Nat.reduceLT, Nat.reduceLeDiff, Int.reduceEq, Int.reduceNe, Int.reduceLT, Int.reduceLE, reduceCtorEq, ↓reduceIte, ne_eq, eq_self, and_self, str_eq_iff, flip, take_snoc, attr_snoc, ace_snoc, Int.toNat_natCast, attrS, attrR, aceS, aceR, metaS, metaC]
        refine RetOk.of [] [] ?_ ?_ rfl ?_ rfl rfl ?_
        all_goals simp [ML, args1, arg1, args0, lents1, lent1, lent0, lents0, lentB, rowsM, body0, only, sg, injB, apartB, keysOf, cur, resS, ↓get_cons', ↓hget_cons', Value.oneCell', eq_self, and_self, ne_eq, vI, rK_nil, flip, take_snoc, attr_snoc, ace_snoc, Int.toNat_natCast, attrS, attrR, aceS, aceR, metaS, metaC]
      · have hn : smallM (⟨m.mode, m.uid, flip m.gid, m.time, m.attrs, m.acl⟩ : M) := by constructor <;> (simp only [List.length_append, List.length_cons, List.length_nil]; first | omega | exact hs.1 | exact hs.2)
        have d1 : diff m (⟨m.mode, m.uid, flip m.gid, m.time, m.attrs, m.acl⟩ : M) = (⟨#[103, 105, 100]⟩ : ByteArray) := by simp [diff, flip_ne, snoc_ne]
        have d2 : diff (⟨m.mode, m.uid, flip m.gid, m.time, m.attrs, m.acl⟩ : M) m = (⟨#[103, 105, 100]⟩ : ByteArray) := by simp [diff, Ne.symm (flip_ne _), Ne.symm (snoc_ne _ _)]
        have d3 : ((⟨#[103, 105, 100]⟩ : ByteArray) = ⟨#[]⟩) = False := eq_false (by decide)
        have s1 := diff_spec m (⟨m.mode, m.uid, flip m.gid, m.time, m.attrs, m.acl⟩ : M) hs hn
        have s2 := diff_spec (⟨m.mode, m.uid, flip m.gid, m.time, m.attrs, m.acl⟩ : M) m hn hs
        have s3 := samem_spec m (⟨m.mode, m.uid, flip m.gid, m.time, m.attrs, m.acl⟩ : M) hs hn
        rw [d1] at s1
        rw [d2] at s2
        simp only [d1, d3, decide_false] at s3
        refine callL_of (told_spec20) [] false [] [] ?_ ?_
        · refine CallOk.of ?_ ?_ rfl ?_ rfl rfl rfl rfl ?_ rfl ?_ rfl
          all_goals simp [ML, args1, arg1, args0, lents1, lent1, lent0, lents0, lentB, rowsM, body0, only, sg, injB, apartB, keysOf, cur, resS, ↓get_cons', ↓hget_cons', Value.oneCell', eq_self, and_self, ne_eq, vI, rK_nil, rK_len, rK_take, rM_len, rM_take, flip, take_snoc, attr_snoc, ace_snoc, Int.toNat_natCast, attrS, attrR, aceS, aceR, metaS, metaC]
        simp -implicitDefEqProofs only [RL0, RL1, RL2, RL3, RL4, RL5, RL6, RL7, RL8, chkW, ↓get_cons', ↓hget_cons', ↓hset_cons', St.gh, isNil, evalA, opTs, LOp.args, Nat.reduceBEq, renS, ren1, ren0, renB, only, sg, gmOf, wrN, buildCells, bsRows, Value.oneCell', setAt, eqCells, eqCell, vI, vB, vS, apartW, Nat.reduceEqDiff, Nat.reduceAdd, Nat.reduceSub, Nat.reduceMul, Nat.reduceLT, Nat.reduceLeDiff, Int.reduceEq, Int.reduceNe, Int.reduceLT, Int.reduceLE, reduceCtorEq, ↓reduceIte, ne_eq, eq_self, and_self, str_eq_iff, flip, take_snoc, attr_snoc, ace_snoc, Int.toNat_natCast, attrS, attrR, aceS, aceR, metaS, metaC]
        refine callL_of (s1) [] true [17, 117] [] ?_ ?_
        · refine CallOk.of ?_ ?_ rfl ?_ rfl rfl rfl rfl ?_ rfl ?_ rfl
          all_goals simp [ML, args1, arg1, args0, lents1, lent1, lent0, lents0, lentB, rowsM, body0, only, sg, injB, apartB, keysOf, cur, resS, ↓get_cons', ↓hget_cons', Value.oneCell', eq_self, and_self, ne_eq, vI, rK_nil, rK_len, rK_take, rM_len, rM_take, flip, take_snoc, attr_snoc, ace_snoc, Int.toNat_natCast, attrS, attrR, aceS, aceR, metaS, metaC, S.flat2, S.flat1, S.flat, Body.flat, rM_flat, rA_flat]
        simp -implicitDefEqProofs only [RL0, RL1, RL2, RL3, RL4, RL5, RL6, RL7, RL8, chkW, ↓get_cons', ↓hget_cons', ↓hset_cons', St.gh, isNil, evalA, opTs, LOp.args, Nat.reduceBEq, renS, ren1, ren0, renB, only, sg, gmOf, wrN, buildCells, bsRows, Value.oneCell', setAt, eqCells, eqCell, vI, vB, vS, apartW, Nat.reduceEqDiff, Nat.reduceAdd, Nat.reduceSub, Nat.reduceMul, Nat.reduceLT, Nat.reduceLeDiff, Int.reduceEq, Int.reduceNe, Int.reduceLT, Int.reduceLE, reduceCtorEq, ↓reduceIte, ne_eq, eq_self, and_self, str_eq_iff, flip, take_snoc, attr_snoc, ace_snoc, Int.toNat_natCast, attrS, attrR, aceS, aceR, metaS, metaC]
        refine callL_of (s2) [] true [17, 117] [] ?_ ?_
        · refine CallOk.of ?_ ?_ rfl ?_ rfl rfl rfl rfl ?_ rfl ?_ rfl
          all_goals simp [ML, args1, arg1, args0, lents1, lent1, lent0, lents0, lentB, rowsM, body0, only, sg, injB, apartB, keysOf, cur, resS, ↓get_cons', ↓hget_cons', Value.oneCell', eq_self, and_self, ne_eq, vI, rK_nil, rK_len, rK_take, rM_len, rM_take, flip, take_snoc, attr_snoc, ace_snoc, Int.toNat_natCast, attrS, attrR, aceS, aceR, metaS, metaC, S.flat2, S.flat1, S.flat, Body.flat, rM_flat, rA_flat]
        simp -implicitDefEqProofs only [RL0, RL1, RL2, RL3, RL4, RL5, RL6, RL7, RL8, chkW, ↓get_cons', ↓hget_cons', ↓hset_cons', St.gh, isNil, evalA, opTs, LOp.args, Nat.reduceBEq, renS, ren1, ren0, renB, only, sg, gmOf, wrN, buildCells, bsRows, Value.oneCell', setAt, eqCells, eqCell, vI, vB, vS, apartW, Nat.reduceEqDiff, Nat.reduceAdd, Nat.reduceSub, Nat.reduceMul, Nat.reduceLT, Nat.reduceLeDiff, Int.reduceEq, Int.reduceNe, Int.reduceLT, Int.reduceLE, reduceCtorEq, ↓reduceIte, ne_eq, eq_self, and_self, str_eq_iff, flip, take_snoc, attr_snoc, ace_snoc, Int.toNat_natCast, attrS, attrR, aceS, aceR, metaS, metaC]
        refine callL_of (s3) [] true [17, 117] [] ?_ ?_
        · refine CallOk.of ?_ ?_ rfl ?_ rfl rfl rfl rfl ?_ rfl ?_ rfl
          all_goals simp [ML, args1, arg1, args0, lents1, lent1, lent0, lents0, lentB, rowsM, body0, only, sg, injB, apartB, keysOf, cur, resS, ↓get_cons', ↓hget_cons', Value.oneCell', eq_self, and_self, ne_eq, vI, rK_nil, rK_len, rK_take, rM_len, rM_take, flip, take_snoc, attr_snoc, ace_snoc, Int.toNat_natCast, attrS, attrR, aceS, aceR, metaS, metaC, S.flat2, S.flat1, S.flat, Body.flat, rM_flat, rA_flat]
        simp -implicitDefEqProofs only [RL0, RL1, RL2, RL3, RL4, RL5, RL6, RL7, RL8, chkW, ↓get_cons', ↓hget_cons', ↓hset_cons', St.gh, isNil, evalA, opTs, LOp.args, Nat.reduceBEq, renS, ren1, ren0, renB, only, sg, gmOf, wrN, buildCells, bsRows, Value.oneCell', setAt, eqCells, eqCell, vI, vB, vS, apartW, Nat.reduceEqDiff, Nat.reduceAdd, Nat.reduceSub, Nat.reduceMul, Nat.reduceLT, Nat.reduceLeDiff, Int.reduceEq, Int.reduceNe, Int.reduceLT, Int.reduceLE, reduceCtorEq, ↓reduceIte, ne_eq, eq_self, and_self, str_eq_iff, flip, take_snoc, attr_snoc, ace_snoc, Int.toNat_natCast, attrS, attrR, aceS, aceR, metaS, metaC]
        refine RetOk.of [] [] ?_ ?_ rfl ?_ rfl rfl ?_
        all_goals simp [ML, args1, arg1, args0, lents1, lent1, lent0, lents0, lentB, rowsM, body0, only, sg, injB, apartB, keysOf, cur, resS, ↓get_cons', ↓hget_cons', Value.oneCell', eq_self, and_self, ne_eq, vI, rK_nil, flip, take_snoc, attr_snoc, ace_snoc, Int.toNat_natCast, attrS, attrR, aceS, aceR, metaS, metaC]
      · have hn : smallM (⟨m.mode, m.uid, m.gid, flip m.time, m.attrs, m.acl⟩ : M) := by constructor <;> (simp only [List.length_append, List.length_cons, List.length_nil]; first | omega | exact hs.1 | exact hs.2)
        have d1 : diff m (⟨m.mode, m.uid, m.gid, flip m.time, m.attrs, m.acl⟩ : M) = (⟨#[116, 105, 109, 101]⟩ : ByteArray) := by simp [diff, flip_ne, snoc_ne]
        have d2 : diff (⟨m.mode, m.uid, m.gid, flip m.time, m.attrs, m.acl⟩ : M) m = (⟨#[116, 105, 109, 101]⟩ : ByteArray) := by simp [diff, Ne.symm (flip_ne _), Ne.symm (snoc_ne _ _)]
        have d3 : ((⟨#[116, 105, 109, 101]⟩ : ByteArray) = ⟨#[]⟩) = False := eq_false (by decide)
        have s1 := diff_spec m (⟨m.mode, m.uid, m.gid, flip m.time, m.attrs, m.acl⟩ : M) hs hn
        have s2 := diff_spec (⟨m.mode, m.uid, m.gid, flip m.time, m.attrs, m.acl⟩ : M) m hn hs
        have s3 := samem_spec m (⟨m.mode, m.uid, m.gid, flip m.time, m.attrs, m.acl⟩ : M) hs hn
        rw [d1] at s1
        rw [d2] at s2
        simp only [d1, d3, decide_false] at s3
        refine callL_of (told_spec20) [] false [] [] ?_ ?_
        · refine CallOk.of ?_ ?_ rfl ?_ rfl rfl rfl rfl ?_ rfl ?_ rfl
          all_goals simp [ML, args1, arg1, args0, lents1, lent1, lent0, lents0, lentB, rowsM, body0, only, sg, injB, apartB, keysOf, cur, resS, ↓get_cons', ↓hget_cons', Value.oneCell', eq_self, and_self, ne_eq, vI, rK_nil, rK_len, rK_take, rM_len, rM_take, flip, take_snoc, attr_snoc, ace_snoc, Int.toNat_natCast, attrS, attrR, aceS, aceR, metaS, metaC]
        simp -implicitDefEqProofs only [RL0, RL1, RL2, RL3, RL4, RL5, RL6, RL7, RL8, chkW, ↓get_cons', ↓hget_cons', ↓hset_cons', St.gh, isNil, evalA, opTs, LOp.args, Nat.reduceBEq, renS, ren1, ren0, renB, only, sg, gmOf, wrN, buildCells, bsRows, Value.oneCell', setAt, eqCells, eqCell, vI, vB, vS, apartW, Nat.reduceEqDiff, Nat.reduceAdd, Nat.reduceSub, Nat.reduceMul, Nat.reduceLT, Nat.reduceLeDiff, Int.reduceEq, Int.reduceNe, Int.reduceLT, Int.reduceLE, reduceCtorEq, ↓reduceIte, ne_eq, eq_self, and_self, str_eq_iff, flip, take_snoc, attr_snoc, ace_snoc, Int.toNat_natCast, attrS, attrR, aceS, aceR, metaS, metaC]
        refine callL_of (s1) [] true [17, 117] [] ?_ ?_
        · refine CallOk.of ?_ ?_ rfl ?_ rfl rfl rfl rfl ?_ rfl ?_ rfl
          all_goals simp [ML, args1, arg1, args0, lents1, lent1, lent0, lents0, lentB, rowsM, body0, only, sg, injB, apartB, keysOf, cur, resS, ↓get_cons', ↓hget_cons', Value.oneCell', eq_self, and_self, ne_eq, vI, rK_nil, rK_len, rK_take, rM_len, rM_take, flip, take_snoc, attr_snoc, ace_snoc, Int.toNat_natCast, attrS, attrR, aceS, aceR, metaS, metaC, S.flat2, S.flat1, S.flat, Body.flat, rM_flat, rA_flat]
        simp -implicitDefEqProofs only [RL0, RL1, RL2, RL3, RL4, RL5, RL6, RL7, RL8, chkW, ↓get_cons', ↓hget_cons', ↓hset_cons', St.gh, isNil, evalA, opTs, LOp.args, Nat.reduceBEq, renS, ren1, ren0, renB, only, sg, gmOf, wrN, buildCells, bsRows, Value.oneCell', setAt, eqCells, eqCell, vI, vB, vS, apartW, Nat.reduceEqDiff, Nat.reduceAdd, Nat.reduceSub, Nat.reduceMul, Nat.reduceLT, Nat.reduceLeDiff, Int.reduceEq, Int.reduceNe, Int.reduceLT, Int.reduceLE, reduceCtorEq, ↓reduceIte, ne_eq, eq_self, and_self, str_eq_iff, flip, take_snoc, attr_snoc, ace_snoc, Int.toNat_natCast, attrS, attrR, aceS, aceR, metaS, metaC]
        refine callL_of (s2) [] true [17, 117] [] ?_ ?_
        · refine CallOk.of ?_ ?_ rfl ?_ rfl rfl rfl rfl ?_ rfl ?_ rfl
          all_goals simp [ML, args1, arg1, args0, lents1, lent1, lent0, lents0, lentB, rowsM, body0, only, sg, injB, apartB, keysOf, cur, resS, ↓get_cons', ↓hget_cons', Value.oneCell', eq_self, and_self, ne_eq, vI, rK_nil, rK_len, rK_take, rM_len, rM_take, flip, take_snoc, attr_snoc, ace_snoc, Int.toNat_natCast, attrS, attrR, aceS, aceR, metaS, metaC, S.flat2, S.flat1, S.flat, Body.flat, rM_flat, rA_flat]
        simp -implicitDefEqProofs only [RL0, RL1, RL2, RL3, RL4, RL5, RL6, RL7, RL8, chkW, ↓get_cons', ↓hget_cons', ↓hset_cons', St.gh, isNil, evalA, opTs, LOp.args, Nat.reduceBEq, renS, ren1, ren0, renB, only, sg, gmOf, wrN, buildCells, bsRows, Value.oneCell', setAt, eqCells, eqCell, vI, vB, vS, apartW, Nat.reduceEqDiff, Nat.reduceAdd, Nat.reduceSub, Nat.reduceMul, Nat.reduceLT, Nat.reduceLeDiff, Int.reduceEq, Int.reduceNe, Int.reduceLT, Int.reduceLE, reduceCtorEq, ↓reduceIte, ne_eq, eq_self, and_self, str_eq_iff, flip, take_snoc, attr_snoc, ace_snoc, Int.toNat_natCast, attrS, attrR, aceS, aceR, metaS, metaC]
        refine callL_of (s3) [] true [17, 117] [] ?_ ?_
        · refine CallOk.of ?_ ?_ rfl ?_ rfl rfl rfl rfl ?_ rfl ?_ rfl
          all_goals simp [ML, args1, arg1, args0, lents1, lent1, lent0, lents0, lentB, rowsM, body0, only, sg, injB, apartB, keysOf, cur, resS, ↓get_cons', ↓hget_cons', Value.oneCell', eq_self, and_self, ne_eq, vI, rK_nil, rK_len, rK_take, rM_len, rM_take, flip, take_snoc, attr_snoc, ace_snoc, Int.toNat_natCast, attrS, attrR, aceS, aceR, metaS, metaC, S.flat2, S.flat1, S.flat, Body.flat, rM_flat, rA_flat]
        simp -implicitDefEqProofs only [RL0, RL1, RL2, RL3, RL4, RL5, RL6, RL7, RL8, chkW, ↓get_cons', ↓hget_cons', ↓hset_cons', St.gh, isNil, evalA, opTs, LOp.args, Nat.reduceBEq, renS, ren1, ren0, renB, only, sg, gmOf, wrN, buildCells, bsRows, Value.oneCell', setAt, eqCells, eqCell, vI, vB, vS, apartW, Nat.reduceEqDiff, Nat.reduceAdd, Nat.reduceSub, Nat.reduceMul, Nat.reduceLT, Nat.reduceLeDiff, Int.reduceEq, Int.reduceNe, Int.reduceLT, Int.reduceLE, reduceCtorEq, ↓reduceIte, ne_eq, eq_self, and_self, str_eq_iff, flip, take_snoc, attr_snoc, ace_snoc, Int.toNat_natCast, attrS, attrR, aceS, aceR, metaS, metaC]
        refine RetOk.of [] [] ?_ ?_ rfl ?_ rfl rfl ?_
        all_goals simp [ML, args1, arg1, args0, lents1, lent1, lent0, lents0, lentB, rowsM, body0, only, sg, injB, apartB, keysOf, cur, resS, ↓get_cons', ↓hget_cons', Value.oneCell', eq_self, and_self, ne_eq, vI, rK_nil, flip, take_snoc, attr_snoc, ace_snoc, Int.toNat_natCast, attrS, attrR, aceS, aceR, metaS, metaC]
      · refine ⟨by omega, by omega, by omega, by omega, ?_⟩
        have hll : (m.attrs ++ [((⟨#[122, 122, 122]⟩ : ByteArray), (⟨#[]⟩ : ByteArray))]).length = m.attrs.length + 1 := by simp
        have hn : smallM (⟨m.mode, m.uid, m.gid, m.time, m.attrs ++ [(⟨#[122, 122, 122]⟩, ⟨#[]⟩)], m.acl⟩ : M) := by constructor <;> (simp only [List.length_append, List.length_cons, List.length_nil]; first | omega | exact hs.1 | exact hs.2)
        have d1 : diff m (⟨m.mode, m.uid, m.gid, m.time, m.attrs ++ [(⟨#[122, 122, 122]⟩, ⟨#[]⟩)], m.acl⟩ : M) = (⟨#[97, 116, 116, 114, 115]⟩ : ByteArray) := by simp [diff, flip_ne, snoc_ne]
        have d2 : diff (⟨m.mode, m.uid, m.gid, m.time, m.attrs ++ [(⟨#[122, 122, 122]⟩, ⟨#[]⟩)], m.acl⟩ : M) m = (⟨#[97, 116, 116, 114, 115]⟩ : ByteArray) := by simp [diff, Ne.symm (flip_ne _), Ne.symm (snoc_ne _ _)]
        have d3 : ((⟨#[97, 116, 116, 114, 115]⟩ : ByteArray) = ⟨#[]⟩) = False := eq_false (by decide)
        have s1 := diff_spec m (⟨m.mode, m.uid, m.gid, m.time, m.attrs ++ [(⟨#[122, 122, 122]⟩, ⟨#[]⟩)], m.acl⟩ : M) hs hn
        have s2 := diff_spec (⟨m.mode, m.uid, m.gid, m.time, m.attrs ++ [(⟨#[122, 122, 122]⟩, ⟨#[]⟩)], m.acl⟩ : M) m hn hs
        have s3 := samem_spec m (⟨m.mode, m.uid, m.gid, m.time, m.attrs ++ [(⟨#[122, 122, 122]⟩, ⟨#[]⟩)], m.acl⟩ : M) hs hn
        rw [d1] at s1
        rw [d2] at s2
        simp only [d1, d3, decide_false] at s3
        refine callL_of (told_spec20) [] false [] [] ?_ ?_
        · refine CallOk.of ?_ ?_ rfl ?_ rfl rfl rfl rfl ?_ rfl ?_ rfl
          all_goals simp [ML, args1, arg1, args0, lents1, lent1, lent0, lents0, lentB, rowsM, body0, only, sg, injB, apartB, keysOf, cur, resS, ↓get_cons', ↓hget_cons', Value.oneCell', eq_self, and_self, ne_eq, vI, rK_nil, rK_len, rK_take, rM_len, rM_take, flip, take_snoc, attr_snoc, ace_snoc, Int.toNat_natCast, attrS, attrR, aceS, aceR, metaS, metaC]
        simp -implicitDefEqProofs only [RL0, RL1, RL2, RL3, RL4, RL5, RL6, RL7, RL8, chkW, ↓get_cons', ↓hget_cons', ↓hset_cons', St.gh, isNil, evalA, opTs, LOp.args, Nat.reduceBEq, renS, ren1, ren0, renB, only, sg, gmOf, wrN, buildCells, bsRows, Value.oneCell', setAt, eqCells, eqCell, vI, vB, vS, apartW, Nat.reduceEqDiff, Nat.reduceAdd, Nat.reduceSub, Nat.reduceMul, Nat.reduceLT, Nat.reduceLeDiff, Int.reduceEq, Int.reduceNe, Int.reduceLT, Int.reduceLE, reduceCtorEq, ↓reduceIte, ne_eq, eq_self, and_self, str_eq_iff, flip, take_snoc, attr_snoc, ace_snoc, Int.toNat_natCast, attrS, attrR, aceS, aceR, metaS, metaC]
        refine callL_of (s1) [] true [55, 117] [] ?_ ?_
        · refine CallOk.of ?_ ?_ rfl ?_ rfl rfl rfl rfl ?_ rfl ?_ rfl
          all_goals simp [ML, args1, arg1, args0, lents1, lent1, lent0, lents0, lentB, rowsM, body0, only, sg, injB, apartB, keysOf, cur, resS, ↓get_cons', ↓hget_cons', Value.oneCell', eq_self, and_self, ne_eq, vI, rK_nil, rK_len, rK_take, rM_len, rM_take, flip, take_snoc, attr_snoc, ace_snoc, Int.toNat_natCast, attrS, attrR, aceS, aceR, metaS, metaC, S.flat2, S.flat1, S.flat, Body.flat, rM_flat, rA_flat]
        simp -implicitDefEqProofs only [RL0, RL1, RL2, RL3, RL4, RL5, RL6, RL7, RL8, chkW, ↓get_cons', ↓hget_cons', ↓hset_cons', St.gh, isNil, evalA, opTs, LOp.args, Nat.reduceBEq, renS, ren1, ren0, renB, only, sg, gmOf, wrN, buildCells, bsRows, Value.oneCell', setAt, eqCells, eqCell, vI, vB, vS, apartW, Nat.reduceEqDiff, Nat.reduceAdd, Nat.reduceSub, Nat.reduceMul, Nat.reduceLT, Nat.reduceLeDiff, Int.reduceEq, Int.reduceNe, Int.reduceLT, Int.reduceLE, reduceCtorEq, ↓reduceIte, ne_eq, eq_self, and_self, str_eq_iff, flip, take_snoc, attr_snoc, ace_snoc, Int.toNat_natCast, attrS, attrR, aceS, aceR, metaS, metaC]
        refine callL_of (s2) [] true [55, 117] [] ?_ ?_
        · refine CallOk.of ?_ ?_ rfl ?_ rfl rfl rfl rfl ?_ rfl ?_ rfl
          all_goals simp [ML, args1, arg1, args0, lents1, lent1, lent0, lents0, lentB, rowsM, body0, only, sg, injB, apartB, keysOf, cur, resS, ↓get_cons', ↓hget_cons', Value.oneCell', eq_self, and_self, ne_eq, vI, rK_nil, rK_len, rK_take, rM_len, rM_take, flip, take_snoc, attr_snoc, ace_snoc, Int.toNat_natCast, attrS, attrR, aceS, aceR, metaS, metaC, S.flat2, S.flat1, S.flat, Body.flat, rM_flat, rA_flat]
        simp -implicitDefEqProofs only [RL0, RL1, RL2, RL3, RL4, RL5, RL6, RL7, RL8, chkW, ↓get_cons', ↓hget_cons', ↓hset_cons', St.gh, isNil, evalA, opTs, LOp.args, Nat.reduceBEq, renS, ren1, ren0, renB, only, sg, gmOf, wrN, buildCells, bsRows, Value.oneCell', setAt, eqCells, eqCell, vI, vB, vS, apartW, Nat.reduceEqDiff, Nat.reduceAdd, Nat.reduceSub, Nat.reduceMul, Nat.reduceLT, Nat.reduceLeDiff, Int.reduceEq, Int.reduceNe, Int.reduceLT, Int.reduceLE, reduceCtorEq, ↓reduceIte, ne_eq, eq_self, and_self, str_eq_iff, flip, take_snoc, attr_snoc, ace_snoc, Int.toNat_natCast, attrS, attrR, aceS, aceR, metaS, metaC]
        refine callL_of (s3) [] true [55, 117] [] ?_ ?_
        · refine CallOk.of ?_ ?_ rfl ?_ rfl rfl rfl rfl ?_ rfl ?_ rfl
          all_goals simp [ML, args1, arg1, args0, lents1, lent1, lent0, lents0, lentB, rowsM, body0, only, sg, injB, apartB, keysOf, cur, resS, ↓get_cons', ↓hget_cons', Value.oneCell', eq_self, and_self, ne_eq, vI, rK_nil, rK_len, rK_take, rM_len, rM_take, flip, take_snoc, attr_snoc, ace_snoc, Int.toNat_natCast, attrS, attrR, aceS, aceR, metaS, metaC, S.flat2, S.flat1, S.flat, Body.flat, rM_flat, rA_flat]
        simp -implicitDefEqProofs only [RL0, RL1, RL2, RL3, RL4, RL5, RL6, RL7, RL8, chkW, ↓get_cons', ↓hget_cons', ↓hset_cons', St.gh, isNil, evalA, opTs, LOp.args, Nat.reduceBEq, renS, ren1, ren0, renB, only, sg, gmOf, wrN, buildCells, bsRows, Value.oneCell', setAt, eqCells, eqCell, vI, vB, vS, apartW, Nat.reduceEqDiff, Nat.reduceAdd, Nat.reduceSub, Nat.reduceMul, Nat.reduceLT, Nat.reduceLeDiff, Int.reduceEq, Int.reduceNe, Int.reduceLT, Int.reduceLE, reduceCtorEq, ↓reduceIte, ne_eq, eq_self, and_self, str_eq_iff, flip, take_snoc, attr_snoc, ace_snoc, Int.toNat_natCast, attrS, attrR, aceS, aceR, metaS, metaC]
        refine RetOk.of [] [] ?_ ?_ rfl ?_ rfl rfl ?_
        all_goals simp [ML, args1, arg1, args0, lents1, lent1, lent0, lents0, lentB, rowsM, body0, only, sg, injB, apartB, keysOf, cur, resS, ↓get_cons', ↓hget_cons', Value.oneCell', eq_self, and_self, ne_eq, vI, rK_nil, flip, take_snoc, attr_snoc, ace_snoc, Int.toNat_natCast, attrS, attrR, aceS, aceR, metaS, metaC]
      · refine ⟨by omega, by omega, by omega, by omega, ?_⟩
        have hn : smallM (⟨m.mode, m.uid, m.gid, m.time, m.attrs, m.acl ++ [(1, 9, 0)]⟩ : M) := by constructor <;> (simp only [List.length_append, List.length_cons, List.length_nil]; first | omega | exact hs.1 | exact hs.2)
        have d1 : diff m (⟨m.mode, m.uid, m.gid, m.time, m.attrs, m.acl ++ [(1, 9, 0)]⟩ : M) = (⟨#[97, 99, 108]⟩ : ByteArray) := by simp [diff, flip_ne, snoc_ne]
        have d2 : diff (⟨m.mode, m.uid, m.gid, m.time, m.attrs, m.acl ++ [(1, 9, 0)]⟩ : M) m = (⟨#[97, 99, 108]⟩ : ByteArray) := by simp [diff, Ne.symm (flip_ne _), Ne.symm (snoc_ne _ _)]
        have d3 : ((⟨#[97, 99, 108]⟩ : ByteArray) = ⟨#[]⟩) = False := eq_false (by decide)
        have s1 := diff_spec m (⟨m.mode, m.uid, m.gid, m.time, m.attrs, m.acl ++ [(1, 9, 0)]⟩ : M) hs hn
        have s2 := diff_spec (⟨m.mode, m.uid, m.gid, m.time, m.attrs, m.acl ++ [(1, 9, 0)]⟩ : M) m hn hs
        have s3 := samem_spec m (⟨m.mode, m.uid, m.gid, m.time, m.attrs, m.acl ++ [(1, 9, 0)]⟩ : M) hs hn
        rw [d1] at s1
        rw [d2] at s2
        simp only [d1, d3, decide_false] at s3
        refine callL_of (told_spec20) [] false [] [] ?_ ?_
        · refine CallOk.of ?_ ?_ rfl ?_ rfl rfl rfl rfl ?_ rfl ?_ rfl
          all_goals simp [ML, args1, arg1, args0, lents1, lent1, lent0, lents0, lentB, rowsM, body0, only, sg, injB, apartB, keysOf, cur, resS, ↓get_cons', ↓hget_cons', Value.oneCell', eq_self, and_self, ne_eq, vI, rK_nil, rK_len, rK_take, rM_len, rM_take, flip, take_snoc, attr_snoc, ace_snoc, Int.toNat_natCast, attrS, attrR, aceS, aceR, metaS, metaC]
        simp -implicitDefEqProofs only [RL0, RL1, RL2, RL3, RL4, RL5, RL6, RL7, RL8, chkW, ↓get_cons', ↓hget_cons', ↓hset_cons', St.gh, isNil, evalA, opTs, LOp.args, Nat.reduceBEq, renS, ren1, ren0, renB, only, sg, gmOf, wrN, buildCells, bsRows, Value.oneCell', setAt, eqCells, eqCell, vI, vB, vS, apartW, Nat.reduceEqDiff, Nat.reduceAdd, Nat.reduceSub, Nat.reduceMul, Nat.reduceLT, Nat.reduceLeDiff, Int.reduceEq, Int.reduceNe, Int.reduceLT, Int.reduceLE, reduceCtorEq, ↓reduceIte, ne_eq, eq_self, and_self, str_eq_iff, flip, take_snoc, attr_snoc, ace_snoc, Int.toNat_natCast, attrS, attrR, aceS, aceR, metaS, metaC]
        refine callL_of (s1) [] true [17, 21] [] ?_ ?_
        · refine CallOk.of ?_ ?_ rfl ?_ rfl rfl rfl rfl ?_ rfl ?_ rfl
          all_goals simp [ML, args1, arg1, args0, lents1, lent1, lent0, lents0, lentB, rowsM, body0, only, sg, injB, apartB, keysOf, cur, resS, ↓get_cons', ↓hget_cons', Value.oneCell', eq_self, and_self, ne_eq, vI, rK_nil, rK_len, rK_take, rM_len, rM_take, flip, take_snoc, attr_snoc, ace_snoc, Int.toNat_natCast, attrS, attrR, aceS, aceR, metaS, metaC, S.flat2, S.flat1, S.flat, Body.flat, rM_flat, rA_flat]
        simp -implicitDefEqProofs only [RL0, RL1, RL2, RL3, RL4, RL5, RL6, RL7, RL8, chkW, ↓get_cons', ↓hget_cons', ↓hset_cons', St.gh, isNil, evalA, opTs, LOp.args, Nat.reduceBEq, renS, ren1, ren0, renB, only, sg, gmOf, wrN, buildCells, bsRows, Value.oneCell', setAt, eqCells, eqCell, vI, vB, vS, apartW, Nat.reduceEqDiff, Nat.reduceAdd, Nat.reduceSub, Nat.reduceMul, Nat.reduceLT, Nat.reduceLeDiff, Int.reduceEq, Int.reduceNe, Int.reduceLT, Int.reduceLE, reduceCtorEq, ↓reduceIte, ne_eq, eq_self, and_self, str_eq_iff, flip, take_snoc, attr_snoc, ace_snoc, Int.toNat_natCast, attrS, attrR, aceS, aceR, metaS, metaC]
        refine callL_of (s2) [] true [17, 21] [] ?_ ?_
        · refine CallOk.of ?_ ?_ rfl ?_ rfl rfl rfl rfl ?_ rfl ?_ rfl
          all_goals simp [ML, args1, arg1, args0, lents1, lent1, lent0, lents0, lentB, rowsM, body0, only, sg, injB, apartB, keysOf, cur, resS, ↓get_cons', ↓hget_cons', Value.oneCell', eq_self, and_self, ne_eq, vI, rK_nil, rK_len, rK_take, rM_len, rM_take, flip, take_snoc, attr_snoc, ace_snoc, Int.toNat_natCast, attrS, attrR, aceS, aceR, metaS, metaC, S.flat2, S.flat1, S.flat, Body.flat, rM_flat, rA_flat]
        simp -implicitDefEqProofs only [RL0, RL1, RL2, RL3, RL4, RL5, RL6, RL7, RL8, chkW, ↓get_cons', ↓hget_cons', ↓hset_cons', St.gh, isNil, evalA, opTs, LOp.args, Nat.reduceBEq, renS, ren1, ren0, renB, only, sg, gmOf, wrN, buildCells, bsRows, Value.oneCell', setAt, eqCells, eqCell, vI, vB, vS, apartW, Nat.reduceEqDiff, Nat.reduceAdd, Nat.reduceSub, Nat.reduceMul, Nat.reduceLT, Nat.reduceLeDiff, Int.reduceEq, Int.reduceNe, Int.reduceLT, Int.reduceLE, reduceCtorEq, ↓reduceIte, ne_eq, eq_self, and_self, str_eq_iff, flip, take_snoc, attr_snoc, ace_snoc, Int.toNat_natCast, attrS, attrR, aceS, aceR, metaS, metaC]
        refine callL_of (s3) [] true [17, 21] [] ?_ ?_
        · refine CallOk.of ?_ ?_ rfl ?_ rfl rfl rfl rfl ?_ rfl ?_ rfl
          all_goals simp [ML, args1, arg1, args0, lents1, lent1, lent0, lents0, lentB, rowsM, body0, only, sg, injB, apartB, keysOf, cur, resS, ↓get_cons', ↓hget_cons', Value.oneCell', eq_self, and_self, ne_eq, vI, rK_nil, rK_len, rK_take, rM_len, rM_take, flip, take_snoc, attr_snoc, ace_snoc, Int.toNat_natCast, attrS, attrR, aceS, aceR, metaS, metaC, S.flat2, S.flat1, S.flat, Body.flat, rM_flat, rA_flat]
        simp -implicitDefEqProofs only [RL0, RL1, RL2, RL3, RL4, RL5, RL6, RL7, RL8, chkW, ↓get_cons', ↓hget_cons', ↓hset_cons', St.gh, isNil, evalA, opTs, LOp.args, Nat.reduceBEq, renS, ren1, ren0, renB, only, sg, gmOf, wrN, buildCells, bsRows, Value.oneCell', setAt, eqCells, eqCell, vI, vB, vS, apartW, Nat.reduceEqDiff, Nat.reduceAdd, Nat.reduceSub, Nat.reduceMul, Nat.reduceLT, Nat.reduceLeDiff, Int.reduceEq, Int.reduceNe, Int.reduceLT, Int.reduceLE, reduceCtorEq, ↓reduceIte, ne_eq, eq_self, and_self, str_eq_iff, flip, take_snoc, attr_snoc, ace_snoc, Int.toNat_natCast, attrS, attrR, aceS, aceR, metaS, metaC]
        refine RetOk.of [] [] ?_ ?_ rfl ?_ rfl rfl ?_
        all_goals simp [ML, args1, arg1, args0, lents1, lent1, lent0, lents0, lentB, rowsM, body0, only, sg, injB, apartB, keysOf, cur, resS, ↓get_cons', ↓hget_cons', Value.oneCell', eq_self, and_self, ne_eq, vI, rK_nil, flip, take_snoc, attr_snoc, ace_snoc, Int.toNat_natCast, attrS, attrR, aceS, aceR, metaS, metaC]
  · refine callL_of (told_spec20) [] false [] [] ?_ ?_
    · refine CallOk.of ?_ ?_ rfl ?_ rfl rfl rfl rfl ?_ rfl ?_ rfl
      all_goals simp [ML, args1, arg1, args0, lents1, lent1, lent0, lents0, lentB, rowsM, body0, only, sg, injB, apartB, keysOf, cur, resS, ↓get_cons', ↓hget_cons', Value.oneCell', eq_self, and_self, ne_eq, vI, rK_nil, rK_len, rK_take, rM_len, rM_take, flip, take_snoc, attr_snoc, ace_snoc, Int.toNat_natCast, attrS, attrR, aceS, aceR, metaS, metaC]
    simp -implicitDefEqProofs only [RL0, RL1, RL2, RL3, RL4, RL5, RL6, RL7, RL8, chkW, ↓get_cons', ↓hget_cons', ↓hset_cons', St.gh, isNil, evalA, opTs, LOp.args, Nat.reduceBEq, renS, ren1, ren0, renB, only, sg, gmOf, wrN, buildCells, bsRows, Value.oneCell', setAt, eqCells, eqCell, vI, vB, vS, apartW, Nat.reduceEqDiff, Nat.reduceAdd, Nat.reduceSub, Nat.reduceMul, Nat.reduceLT, Nat.reduceLeDiff, Int.reduceEq, Int.reduceNe, Int.reduceLT, Int.reduceLE, reduceCtorEq, ↓reduceIte, ne_eq, eq_self, and_self, str_eq_iff, flip, take_snoc, attr_snoc, ace_snoc, Int.toNat_natCast, attrS, attrR, aceS, aceR, metaS, metaC]
    refine RetOk.of [] [] ?_ ?_ rfl ?_ rfl rfl ?_
    all_goals simp [ML, args1, arg1, args0, lents1, lent1, lent0, lents0, lentB, rowsM, body0, only, sg, injB, apartB, keysOf, cur, resS, ↓get_cons', ↓hget_cons', Value.oneCell', eq_self, and_self, ne_eq, vI, rK_nil, flip, take_snoc, attr_snoc, ace_snoc, Int.toNat_natCast, attrS, attrR, aceS, aceR, metaS, metaC]
end Go.Proofs.Me
