import Derived.Test.YthbonnlhoaeflaaMeK
set_option linter.unusedVariables false
set_option linter.unusedSimpArgs false
-- DEFS flip, attr_set, ace_set, List.length_set, Int.toNat_natCast, attrS, attrR, aceS, aceR, metaS, metaC
namespace Go.Proofs.Me
open Go.RowKit Go.Lib Go.Eng Go.Proofs Go.IntWalk
set_option maxRecDepth 100000
set_option maxHeartbeats 4000000
def part {α : Type} (f : α → α) (l : List α) (i : Nat) : List α := (l.take i).map f ++ l.drop i
theorem part_zero {α : Type} (f : α → α) (l : List α) : part f l 0 = l := rfl
theorem part_all {α : Type} (f : α → α) (l : List α) : part f l l.length = l.map f := by simp [part]
theorem part_len {α : Type} (f : α → α) (l : List α) (i : Nat) (h : i ≤ l.length) : (part f l i).length = l.length := by simp [part]; omega
theorem part_getD {α : Type} [Inhabited α] (f : α → α) (l : List α) (i : Nat) (h : i < l.length) : (part f l i).getD i default = l.getD i default := by
  unfold part
  have hm : ((l.take i).map f).length = i := by simp; omega
  rw [List.getD_eq_getElem?_getD, List.getElem?_append_right (by omega), hm, List.getD_eq_getElem?_getD, List.getElem?_drop]
  congr 2
  omega
theorem set_part {α : Type} [Inhabited α] (f : α → α) (l : List α) (i : Nat) (h : i < l.length) : (part f l i).set i (f (l.getD i default)) = part f l (i + 1) := by
  unfold part
  have hm : ((l.take i).map f).length = i := by simp; omega
  rw [List.set_append_right (h := by omega), hm, List.take_succ_eq_append_getElem h, List.drop_eq_getElem_cons h, List.getD_eq_getElem?_getD, List.getElem?_eq_getElem h, Nat.sub_self, List.map_append]
  simp only [List.set_cons_zero, List.map_cons, List.map_nil, List.append_assoc, List.cons_append, List.nil_append, Option.getD_some]
theorem map_ne {α : Type} {f : α → α} (hf : ∀ x, f x ≠ x) (l : List α) : l.map f = l ↔ l = [] := by
  cases l with
  | nil => simp
  | cons x r => simp [hf x]
def nx (t : At) : At := (t.1 ++ ⟨#[120]⟩, t.2)
def px (t : Ac) : Ac := (t.1, t.2.1, flip t.2.2)
theorem nx_ne (t : At) : nx t ≠ t := fun h => by
  have h1 := congrArg (fun t : At => t.1.size) h
  simp only [nx, ByteArray.size_append] at h1
  have : (⟨#[120]⟩ : ByteArray).size = 1 := rfl
  omega
theorem px_ne (t : Ac) : px t ≠ t := fun h => flip_ne t.2.2 (congrArg (fun t : Ac => t.2.2) h).symm
theorem own_spec (m : M) (hs : smallM m) : Eng.Spec Try.prog 8 [] [] [metaS m] [] (.d (.v (.bool true))) := by
  refine told_spec mixed f8_told f8_results f8_text rfl (by simp) rfl ?_
  simp only [initS, List.length_cons, List.length_nil, List.range, List.range.loop, List.getD_cons_zero, List.getD_cons_succ, List.cons_append, List.nil_append, flip, attr_set, ace_set, List.length_set, Int.toNat_natCast, attrS, attrR, aceS, aceR, metaS, metaC]
  simp -implicitDefEqProofs only [RL0, RL1, RL2, RL3, RL4, RL5, RL6, RL7, RL8, chkW, ↓get_cons', ↓hget_cons', ↓hset_cons', St.gh, isNil, evalA, opTs, LOp.args, Nat.reduceBEq, renS, ren1, ren0, renB, only, sg, gmOf, wrN, buildCells, bsRows, Value.oneCell', setAt, eqCells, eqCell, vI, vB, vS, apartW, Nat.reduceEqDiff, Nat.reduceAdd, Nat.reduceSub, Nat.reduceMul, Nat.reduceLT, Nat.reduceLeDiff, Int.reduceEq, Int.reduceNe, Int.reduceLT, Int.reduceLE, reduceCtorEq, ↓reduceIte, ne_eq, eq_self, and_self, str_eq_iff]
  refine callL_of (few_spec m hs) [] false [] [] ?_ ?_
  · refine CallOk.of ?_ ?_ rfl ?_ rfl rfl rfl rfl ?_ rfl ?_ rfl
    all_goals simp [ML, args1, arg1, args0, lents1, lent1, lent0, lents0, lentB, rowsM, body0, only, sg, injB, apartB, keysOf, cur, resS, ↓get_cons', ↓hget_cons', Value.oneCell', eq_self, and_self, ne_eq, vI, rK_nil, rK_len, rK_take, rM_len, rM_take, flip, attr_set, ace_set, List.length_set, Int.toNat_natCast, attrS, attrR, aceS, aceR, metaS, metaC]
  simp -implicitDefEqProofs only [RL0, RL1, RL2, RL3, RL4, RL5, RL6, RL7, RL8, chkW, ↓get_cons', ↓hget_cons', ↓hset_cons', St.gh, isNil, evalA, opTs, LOp.args, Nat.reduceBEq, renS, ren1, ren0, renB, only, sg, gmOf, wrN, buildCells, bsRows, Value.oneCell', setAt, eqCells, eqCell, vI, vB, vS, apartW, Nat.reduceEqDiff, Nat.reduceAdd, Nat.reduceSub, Nat.reduceMul, Nat.reduceLT, Nat.reduceLeDiff, Int.reduceEq, Int.reduceNe, Int.reduceLT, Int.reduceLE, reduceCtorEq, ↓reduceIte, ne_eq, eq_self, and_self, str_eq_iff, flip, attr_set, ace_set, List.length_set, Int.toNat_natCast, attrS, attrR, aceS, aceR, metaS, metaC]
  refine ⟨fun h1 => ?_, fun h1 => ?_⟩
  · refine callL_of (told_spec20) [] false [] [] ?_ ?_
    · refine CallOk.of ?_ ?_ rfl ?_ rfl rfl rfl rfl ?_ rfl ?_ rfl
      all_goals simp [ML, args1, arg1, args0, lents1, lent1, lent0, lents0, lentB, rowsM, body0, only, sg, injB, apartB, keysOf, cur, resS, ↓get_cons', ↓hget_cons', Value.oneCell', eq_self, and_self, ne_eq, vI, rK_nil, rK_len, rK_take, rM_len, rM_take, flip, attr_set, ace_set, List.length_set, Int.toNat_natCast, attrS, attrR, aceS, aceR, metaS, metaC]
    simp -implicitDefEqProofs only [RL0, RL1, RL2, RL3, RL4, RL5, RL6, RL7, RL8, chkW, ↓get_cons', ↓hget_cons', ↓hset_cons', St.gh, isNil, evalA, opTs, LOp.args, Nat.reduceBEq, renS, ren1, ren0, renB, only, sg, gmOf, wrN, buildCells, bsRows, Value.oneCell', setAt, eqCells, eqCell, vI, vB, vS, apartW, Nat.reduceEqDiff, Nat.reduceAdd, Nat.reduceSub, Nat.reduceMul, Nat.reduceLT, Nat.reduceLeDiff, Int.reduceEq, Int.reduceNe, Int.reduceLT, Int.reduceLE, reduceCtorEq, ↓reduceIte, ne_eq, eq_self, and_self, str_eq_iff, flip, attr_set, ace_set, List.length_set, Int.toNat_natCast, attrS, attrR, aceS, aceR, metaS, metaC]
    refine RetOk.of [] [] ?_ ?_ rfl ?_ rfl rfl ?_
    all_goals simp [ML, args1, arg1, args0, lents1, lent1, lent0, lents0, lentB, rowsM, body0, only, sg, injB, apartB, keysOf, cur, resS, ↓get_cons', ↓hget_cons', Value.oneCell', eq_self, and_self, ne_eq, vI, rK_nil, flip, attr_set, ace_set, List.length_set, Int.toNat_natCast, attrS, attrR, aceS, aceR, metaS, metaC]
  have hf : few m := Decidable.not_not.1 h1
  have hl := hf.2
  refine callLT_of (copy_spec m hs) [(1000, 12), (1001, 112)] false [] [] ?_ ?_
  · refine CallOk.of ?_ ?_ rfl ?_ rfl rfl rfl rfl ?_ rfl ?_ rfl
    all_goals simp [ML, args1, arg1, args0, lents1, lent1, lent0, lents0, lentB, rowsM, body0, only, sg, injB, apartB, keysOf, cur, resS, ↓get_cons', ↓hget_cons', Value.oneCell', eq_self, and_self, ne_eq, vI, rK_nil, rK_len, rK_take, rM_len, rM_take, flip, attr_set, ace_set, List.length_set, Int.toNat_natCast, attrS, attrR, aceS, aceR, metaS, metaC]
  simp -implicitDefEqProofs only [RL0, RL1, RL2, RL3, RL4, RL5, RL6, RL7, RL8, chkW, ↓get_cons', ↓hget_cons', ↓hset_cons', St.gh, isNil, evalA, opTs, LOp.args, Nat.reduceBEq, renS, ren1, ren0, renB, only, sg, gmOf, wrN, buildCells, bsRows, Value.oneCell', setAt, eqCells, eqCell, vI, vB, vS, apartW, Nat.reduceEqDiff, Nat.reduceAdd, Nat.reduceSub, Nat.reduceMul, Nat.reduceLT, Nat.reduceLeDiff, Int.reduceEq, Int.reduceNe, Int.reduceLT, Int.reduceLE, reduceCtorEq, ↓reduceIte, ne_eq, eq_self, and_self, str_eq_iff, flip, attr_set, ace_set, List.length_set, Int.toNat_natCast, attrS, attrR, aceS, aceR, metaS, metaC, callT, cellT]
  refine callLT_of (copy_spec m hs) [(1000, 14), (1001, 114)] false [] [] ?_ ?_
  · refine CallOk.of ?_ ?_ rfl ?_ rfl rfl rfl rfl ?_ rfl ?_ rfl
    all_goals simp [ML, args1, arg1, args0, lents1, lent1, lent0, lents0, lentB, rowsM, body0, only, sg, injB, apartB, keysOf, cur, resS, ↓get_cons', ↓hget_cons', Value.oneCell', eq_self, and_self, ne_eq, vI, rK_nil, rK_len, rK_take, rM_len, rM_take, flip, attr_set, ace_set, List.length_set, Int.toNat_natCast, attrS, attrR, aceS, aceR, metaS, metaC]
  simp -implicitDefEqProofs only [RL0, RL1, RL2, RL3, RL4, RL5, RL6, RL7, RL8, chkW, ↓get_cons', ↓hget_cons', ↓hset_cons', St.gh, isNil, evalA, opTs, LOp.args, Nat.reduceBEq, renS, ren1, ren0, renB, only, sg, gmOf, wrN, buildCells, bsRows, Value.oneCell', setAt, eqCells, eqCell, vI, vB, vS, apartW, Nat.reduceEqDiff, Nat.reduceAdd, Nat.reduceSub, Nat.reduceMul, Nat.reduceLT, Nat.reduceLeDiff, Int.reduceEq, Int.reduceNe, Int.reduceLT, Int.reduceLE, reduceCtorEq, ↓reduceIte, ne_eq, eq_self, and_self, str_eq_iff, flip, attr_set, ace_set, List.length_set, Int.toNat_natCast, attrS, attrR, aceS, aceR, metaS, metaC, callT, cellT]
  refine vc_loop (fun i : Nat => ⟨[(5, .d (.v (.int .i64 i))), (3, .ptr 3 0 0 0), (4, .ptr 4 0 0 0), (1, .ptr 1 0 0 0)], [(1, ⟨0, .box (metaC m)⟩), (112, ⟨0, .arr 3 (rM aceR m.acl)⟩), (12, ⟨0, .arr 2 (rM attrR (part nx m.attrs i))⟩), (114, ⟨0, .arr 3 (rM aceR m.acl)⟩), (14, ⟨0, .arr 2 (rM attrR m.attrs)⟩),
      (3, ⟨0, .box [.d (.v (.int .i64 m.mode)), .d (.v (.int .i64 m.uid)), .d (.v (.int .i64 m.gid)), .d (.v (.int .i64 m.time)), .view 12 0 0 m.attrs.length, .view 112 0 0 m.acl.length]⟩), (4, ⟨0, .box [.d (.v (.int .i64 m.mode)), .d (.v (.int .i64 m.uid)), .d (.v (.int .i64 m.gid)), .d (.v (.int .i64 m.time)), .view 14 0 0 m.attrs.length, .view 114 0 0 m.acl.length]⟩)]⟩)
    (fun i => i ≤ m.attrs.length) (fun i => m.attrs.length - i) 0 (by omega) ?_ ?_
  · exact LE.refl _ _
  rintro i g1
  have e3 : IntKind.i64.wrap ((i : Int) + 1) = ((i + 1 : Nat) : Int) := by rw [i64_in _ (by omega)]; omega
  have p1 := part_len nx m.attrs i g1
  by_cases hi : i < m.attrs.length
  · have p2 := part_getD nx m.attrs i hi
    have p3 : (part nx m.attrs i).set i ((m.attrs.getD i default).1 ++ ⟨#[120]⟩, (m.attrs.getD i default).2) = part nx m.attrs (i + 1) := set_part nx m.attrs i hi
    have e1 : ((i : Int) < (m.attrs.length : Int)) = True := eq_true (by omega)
    have hz := (hf.1 i hi).1
    have hz2 : (⟨#[120]⟩ : ByteArray).size = 1 := rfl
    simp -implicitDefEqProofs only [RL0, RL1, RL2, RL3, RL4, RL5, RL6, RL7, RL8, chkW, ↓get_cons', ↓hget_cons', ↓hset_cons', St.gh, isNil, evalA, opTs, LOp.args, Nat.reduceBEq, renS, ren1, ren0, renB, only, sg, gmOf, wrN, buildCells, bsRows, Value.oneCell', setAt, eqCells, eqCell, vI, vB, vS, apartW, Nat.reduceEqDiff, Nat.reduceAdd, Nat.reduceSub, Nat.reduceMul, Nat.reduceLT, Nat.reduceLeDiff, Int.reduceEq, Int.reduceNe, Int.reduceLT, Int.reduceLE, reduceCtorEq, ↓reduceIte, ne_eq, eq_self, and_self, str_eq_iff, flip, attr_set, ace_set, List.length_set, Int.toNat_natCast, attrS, attrR, aceS, aceR, metaS, metaC, e1, e3, p1, p2, p3]
    repeat refine And.intro (by omega) ?_
    exact ⟨i + 1, by omega, by omega, LE.refl _ _⟩
  have hi' : i = m.attrs.length := by omega
  subst hi'
  have e1 : ((m.attrs.length : Int) < (m.attrs.length : Int)) = False := eq_false (by omega)
  simp -implicitDefEqProofs only [RL0, RL1, RL2, RL3, RL4, RL5, RL6, RL7, RL8, chkW, ↓get_cons', ↓hget_cons', ↓hset_cons', St.gh, isNil, evalA, opTs, LOp.args, Nat.reduceBEq, renS, ren1, ren0, renB, only, sg, gmOf, wrN, buildCells, bsRows, Value.oneCell', setAt, eqCells, eqCell, vI, vB, vS, apartW, Nat.reduceEqDiff, Nat.reduceAdd, Nat.reduceSub, Nat.reduceMul, Nat.reduceLT, Nat.reduceLeDiff, Int.reduceEq, Int.reduceNe, Int.reduceLT, Int.reduceLE, reduceCtorEq, ↓reduceIte, ne_eq, eq_self, and_self, str_eq_iff, flip, attr_set, ace_set, List.length_set, Int.toNat_natCast, attrS, attrR, aceS, aceR, metaS, metaC, e1, part_all]
  refine vc_loop (fun i : Nat => ⟨[(6, .d (.v (.int .i64 i))), (3, .ptr 3 0 0 0), (4, .ptr 4 0 0 0), (1, .ptr 1 0 0 0)], [(1, ⟨0, .box (metaC m)⟩), (112, ⟨0, .arr 3 (rM aceR (part px m.acl i))⟩), (12, ⟨0, .arr 2 (rM attrR (m.attrs.map nx))⟩), (114, ⟨0, .arr 3 (rM aceR m.acl)⟩), (14, ⟨0, .arr 2 (rM attrR m.attrs)⟩),
      (3, ⟨0, .box [.d (.v (.int .i64 m.mode)), .d (.v (.int .i64 m.uid)), .d (.v (.int .i64 m.gid)), .d (.v (.int .i64 m.time)), .view 12 0 0 m.attrs.length, .view 112 0 0 m.acl.length]⟩), (4, ⟨0, .box [.d (.v (.int .i64 m.mode)), .d (.v (.int .i64 m.uid)), .d (.v (.int .i64 m.gid)), .d (.v (.int .i64 m.time)), .view 14 0 0 m.attrs.length, .view 114 0 0 m.acl.length]⟩)]⟩)
    (fun i => i ≤ m.acl.length) (fun i => m.acl.length - i) 0 (by omega) (LE.refl _ _) ?_
  rintro i g2
  have e3 : IntKind.i64.wrap ((i : Int) + 1) = ((i + 1 : Nat) : Int) := by rw [i64_in _ (by omega)]; omega
  have p1 := part_len px m.acl i g2
  by_cases hi : i < m.acl.length
  · have p2 := part_getD px m.acl i hi
    have p3 : (part px m.acl i).set i ((m.acl.getD i default).1, (m.acl.getD i default).2.1, flip (m.acl.getD i default).2.2) = part px m.acl (i + 1) := set_part px m.acl i hi
    have e1 : ((i : Int) < (m.acl.length : Int)) = True := eq_true (by omega)
    unfold flip at p3
    simp -implicitDefEqProofs only [RL0, RL1, RL2, RL3, RL4, RL5, RL6, RL7, RL8, chkW, ↓get_cons', ↓hget_cons', ↓hset_cons', St.gh, isNil, evalA, opTs, LOp.args, Nat.reduceBEq, renS, ren1, ren0, renB, only, sg, gmOf, wrN, buildCells, bsRows, Value.oneCell', setAt, eqCells, eqCell, vI, vB, vS, apartW, Nat.reduceEqDiff, Nat.reduceAdd, Nat.reduceSub, Nat.reduceMul, Nat.reduceLT, Nat.reduceLeDiff, Int.reduceEq, Int.reduceNe, Int.reduceLT, Int.reduceLE, reduceCtorEq, ↓reduceIte, ne_eq, eq_self, and_self, str_eq_iff, flip, attr_set, ace_set, List.length_set, Int.toNat_natCast, attrS, attrR, aceS, aceR, metaS, metaC, e1, e3, p1, p2, p3]
    repeat refine And.intro (by omega) ?_
    exact ⟨i + 1, by omega, by omega, LE.refl _ _⟩
  have hi' : i = m.acl.length := by omega
  subst hi'
  have e1 : ((m.acl.length : Int) < (m.acl.length : Int)) = False := eq_false (by omega)
  simp -implicitDefEqProofs only [RL0, RL1, RL2, RL3, RL4, RL5, RL6, RL7, RL8, chkW, ↓get_cons', ↓hget_cons', ↓hset_cons', St.gh, isNil, evalA, opTs, LOp.args, Nat.reduceBEq, renS, ren1, ren0, renB, only, sg, gmOf, wrN, buildCells, bsRows, Value.oneCell', setAt, eqCells, eqCell, vI, vB, vS, apartW, Nat.reduceEqDiff, Nat.reduceAdd, Nat.reduceSub, Nat.reduceMul, Nat.reduceLT, Nat.reduceLeDiff, Int.reduceEq, Int.reduceNe, Int.reduceLT, Int.reduceLE, reduceCtorEq, ↓reduceIte, ne_eq, eq_self, and_self, str_eq_iff, flip, attr_set, ace_set, List.length_set, Int.toNat_natCast, attrS, attrR, aceS, aceR, metaS, metaC, e1, part_all]
  refine callLT_of (told_spec20) [] false [] [] ?_ ?_
  · refine CallOk.of ?_ ?_ rfl ?_ rfl rfl rfl rfl ?_ rfl ?_ rfl
    all_goals simp [ML, args1, arg1, args0, lents1, lent1, lent0, lents0, lentB, rowsM, body0, only, sg, injB, apartB, keysOf, cur, resS, ↓get_cons', ↓hget_cons', Value.oneCell', eq_self, and_self, ne_eq, vI, rK_nil, rK_len, rK_take, rM_len, rM_take, flip, attr_set, ace_set, List.length_set, Int.toNat_natCast, attrS, attrR, aceS, aceR, metaS, metaC]
  simp -implicitDefEqProofs only [RL0, RL1, RL2, RL3, RL4, RL5, RL6, RL7, RL8, chkW, ↓get_cons', ↓hget_cons', ↓hset_cons', St.gh, isNil, evalA, opTs, LOp.args, Nat.reduceBEq, renS, ren1, ren0, renB, only, sg, gmOf, wrN, buildCells, bsRows, Value.oneCell', setAt, eqCells, eqCell, vI, vB, vS, apartW, Nat.reduceEqDiff, Nat.reduceAdd, Nat.reduceSub, Nat.reduceMul, Nat.reduceLT, Nat.reduceLeDiff, Int.reduceEq, Int.reduceNe, Int.reduceLT, Int.reduceLE, reduceCtorEq, ↓reduceIte, ne_eq, eq_self, and_self, str_eq_iff, flip, attr_set, ace_set, List.length_set, Int.toNat_natCast, attrS, attrR, aceS, aceR, metaS, metaC, callT, cellT]
  have hm : smallM ⟨m.mode, m.uid, m.gid, m.time, m.attrs.map nx, m.acl.map px⟩ := by constructor <;> (simp only [List.length_map]; omega)
  have d1 : diff m m = ⟨#[]⟩ := by simp [diff]
  have s1 := samem_spec m m hs hs
  have s2 := samem_spec ⟨m.mode, m.uid, m.gid, m.time, m.attrs.map nx, m.acl.map px⟩ m hm hs
  have d2 : (diff ⟨m.mode, m.uid, m.gid, m.time, m.attrs.map nx, m.acl.map px⟩ m = ⟨#[]⟩) ↔ (m.attrs.length : Int) + m.acl.length = 0 := by
    simp only [diff, ne_eq, not_true_eq_false, if_false, map_ne nx_ne, map_ne px_ne]
    by_cases ha : m.attrs = []
    · by_cases hb : m.acl = []
      · simp [ha, hb]
      · have := List.length_pos_iff.2 hb
        simp only [ha, hb, not_true_eq_false, not_false_eq_true, if_true, if_false]
        exact iff_of_false (by decide) (by omega)
    · have := List.length_pos_iff.2 ha
      simp only [ha, not_false_eq_true, if_true]
      exact iff_of_false (by decide) (by omega)
  simp only [d1, decide_true] at s1
  simp only [d2] at s2
  have e4 : IntKind.i64.wrap ((m.attrs.length : Int) + (m.acl.length : Int)) = (m.attrs.length : Int) + m.acl.length := i64_in _ (by omega)
  refine callLT_of (s1) [] true [14, 114] [] ?_ ?_
  · refine CallOk.of ?_ ?_ rfl ?_ rfl rfl rfl rfl ?_ rfl ?_ rfl
    all_goals simp [ML, args1, arg1, args0, lents1, lent1, lent0, lents0, lentB, rowsM, body0, only, sg, injB, apartB, keysOf, cur, resS, ↓get_cons', ↓hget_cons', Value.oneCell', eq_self, and_self, ne_eq, vI, rK_nil, rK_len, rK_take, rM_len, rM_take, flip, attr_set, ace_set, List.length_set, Int.toNat_natCast, attrS, attrR, aceS, aceR, metaS, metaC, e4, S.flat2, S.flat1, S.flat, Body.flat, rM_flat, rA_flat]
  simp -implicitDefEqProofs only [RL0, RL1, RL2, RL3, RL4, RL5, RL6, RL7, RL8, chkW, ↓get_cons', ↓hget_cons', ↓hset_cons', St.gh, isNil, evalA, opTs, LOp.args, Nat.reduceBEq, renS, ren1, ren0, renB, only, sg, gmOf, wrN, buildCells, bsRows, Value.oneCell', setAt, eqCells, eqCell, vI, vB, vS, apartW, Nat.reduceEqDiff, Nat.reduceAdd, Nat.reduceSub, Nat.reduceMul, Nat.reduceLT, Nat.reduceLeDiff, Int.reduceEq, Int.reduceNe, Int.reduceLT, Int.reduceLE, reduceCtorEq, ↓reduceIte, ne_eq, eq_self, and_self, str_eq_iff, flip, attr_set, ace_set, List.length_set, Int.toNat_natCast, attrS, attrR, aceS, aceR, metaS, metaC, e4, callT, cellT]
  have t1 : List.take m.attrs.length (m.attrs.map nx) = m.attrs.map nx := List.take_of_length_le (by simp)
  have t2 : List.take m.acl.length (m.acl.map px) = m.acl.map px := List.take_of_length_le (by simp)
  refine callLT_of (s2) [] true [12, 112, 14, 114] [] ?_ ?_
  · refine CallOk.of ?_ ?_ rfl ?_ rfl rfl rfl rfl ?_ rfl ?_ rfl
    all_goals simp [ML, args1, arg1, args0, lents1, lent1, lent0, lents0, lentB, rowsM, body0, only, sg, injB, apartB, keysOf, cur, resS, ↓get_cons', ↓hget_cons', Value.oneCell', eq_self, and_self, ne_eq, vI, rK_nil, rK_len, rK_take, rM_len, rM_take, flip, attr_set, ace_set, List.length_set, Int.toNat_natCast, attrS, attrR, aceS, aceR, metaS, metaC, S.flat2, S.flat1, S.flat, Body.flat, rM_flat, rA_flat, List.length_map, t1, t2]
  simp -implicitDefEqProofs only [RL0, RL1, RL2, RL3, RL4, RL5, RL6, RL7, RL8, chkW, ↓get_cons', ↓hget_cons', ↓hset_cons', St.gh, isNil, evalA, opTs, LOp.args, Nat.reduceBEq, renS, ren1, ren0, renB, only, sg, gmOf, wrN, buildCells, bsRows, Value.oneCell', setAt, eqCells, eqCell, vI, vB, vS, apartW, Nat.reduceEqDiff, Nat.reduceAdd, Nat.reduceSub, Nat.reduceMul, Nat.reduceLT, Nat.reduceLeDiff, Int.reduceEq, Int.reduceNe, Int.reduceLT, Int.reduceLE, reduceCtorEq, ↓reduceIte, ne_eq, eq_self, and_self, str_eq_iff, flip, attr_set, ace_set, List.length_set, Int.toNat_natCast, attrS, attrR, aceS, aceR, metaS, metaC, callT, cellT]
  refine RetOk.of [] [] ?_ ?_ rfl ?_ rfl rfl ?_
  all_goals simp [ML, args1, arg1, args0, lents1, lent1, lent0, lents0, lentB, rowsM, body0, only, sg, injB, apartB, keysOf, cur, resS, ↓get_cons', ↓hget_cons', Value.oneCell', eq_self, and_self, ne_eq, vI, rK_nil, flip, attr_set, ace_set, List.length_set, Int.toNat_natCast, attrS, attrR, aceS, aceR, metaS, metaC]
end Go.Proofs.Me
