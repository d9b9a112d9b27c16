import Derived.Test.YtnjnfdjoonogaaaDoorAcE
import Derived.Test.YtnjnfdjoonogaaaDoorAcShelf
set_option linter.unusedVariables false
set_option linter.unusedSimpArgs false
-- DEFS Int.toNat_natCast, aceR, aceS
namespace Go.Proofs.Ac
open Go.RowKit Go.Lib Go.Eng Go.Proofs Go.IntWalk
set_option maxRecDepth 100000
set_option linter.unusedVariables false
set_option maxHeartbeats 2000000
/-- A promise out of a contract that leaves what was there as it was, and answers without memory. -/
theorem spec_of_calls {P : Program} {f : Nat} {args : List S} {x : Value} (hc : ∀ (w : World) (ok : Nat → Prop) (lv : Nat → Option Reg) (vs : List Value), (∀ b, ok b → b < w.heap.size) → vs.length = args.length →
      (∀ (j : Nat) (s : S) (v : Value), args[j]? = some s → vs[j]? = some v → RepS w ok lv s v) → Calls P f vs.toArray w fun e w' => e = .returned x ∧ Below w.heap.size w w') :
    Eng.Spec P f [] [] args [] (.d (.v x)) := by
  intro w ok lv vs In hl hrep
  refine (hc w ok lv vs In.okl hl hrep).mono ?_
  rintro e w' ⟨rfl, hb⟩
  refine ⟨x, ok, lv, rfl, .d _ _ (.v _), ?_⟩
  exact {
    os := hb.os
    tape := hb.tape
    output := hb.output
    size := hb.size
    block := fun k hk _ => hb.block k hk
    hp := fun id ob h => by simp [hget] at h
    inj := fun i j oi oj ri rj b h => by simp [hget] at h
    okl := fun b h => Nat.lt_of_lt_of_le (In.okl b h) hb.size
    okn := fun b id ob r _ h => by simp [hget] at h
    pv := fun b h => .inl h
    ph := fun id ob r b h => by simp [hget] at h
    pn := fun id r h => by simp at h }
theorem itoa_spec (i : Nat) (hi : i < 100) : Eng.Spec Tryd.prog 19 [] [] [.d (.v (.int .i64 i))] [] (.d (.v (.string ⟨(Lib.decDigits i).toArray⟩))) := by
  refine spec_of_calls fun w ok lv vs _ hl hrep => ?_
  match vs, hl with
  | [v], _ =>
    have := (hrep 0 _ v rfl rfl).dv
    subst this
    refine (Tryd.strconv_Itoa_small i hi w).mono ?_
    rintro e w' ⟨rfl, rfl⟩
    exact ⟨rfl, Below.refl _ _⟩
def strR (s : ByteArray) : List D := [.v (.string s)]
theorem flat_strR (l : List ByteArray) : (∀ r ∈ rM strR l, ∀ d ∈ r, ∃ x, d = D.v x) = True := by
  refine eq_true fun r hr d hd => ?_
  obtain ⟨t, _, rfl⟩ := List.mem_map.1 hr
  simp only [strR, List.mem_cons, List.not_mem_nil, or_false] at hd
  exact ⟨_, hd⟩
theorem flat_str : ∀ xs : List ByteArray, (rM strR xs).flatten = xs.map fun s => D.v (.string s)
  | [] => rfl
  | x :: r => by
    have ih := flat_str r
    simp only [rM, List.map_cons, List.flatten_cons] at ih ⊢
    rw [ih]; rfl
theorem join_spec (xs : List ByteArray) (sep : ByteArray) (h2 : xs ≠ []) (hN : xs.length ≤ 2 ^ 40) (hlen : (Lib.join (xs.map (·.data.toList)) sep.data.toList).length ≤ 140737488355328) :
    Eng.Spec Tryd.prog 20 [] [] [.d (.sl 1 (rM strR xs)), .d (.v (.string sep))] [] (.d (.v (.string ⟨(Lib.join (xs.map (·.data.toList)) sep.data.toList).toArray⟩))) := by
  refine spec_of_calls fun w ok lv vs hok hl hrep => ?_
  match vs, hl with
  | [v, u], _ =>
    have e1 := (hrep 1 _ u rfl rfl).dv
    subst e1
    have e0 := hrep 0 _ v rfl rfl
    have hne : rM strR xs ≠ [] := by intro q; exact h2 (List.map_eq_nil_iff.1 q)
    cases e0 with
    | d _ _ e0 =>
      generalize hR : rM strR xs = R at e0
      cases e0 with
      | nil => exact absurd hR hne
      | emp => exact absurd hR hne
      | sl _ _ b o cap us hr hc hb h1 h3 =>
        subst hR
        have hf := flat_str xs
        have hlen1 : (rM strR xs).length = xs.length := by simp [rM]
        rw [hlen1] at hc ⊢
        refine (Tryd.strings_Join b o cap xs sep w (fun j x hx => ?_) (hok _ (hb hne)) (by omega) hc hlen).mono fun e w' h => h
        have hj : (rM strR xs).flatten[j]? = some (D.v (.string x)) := by rw [hf, List.getElem?_map, hx]; rfl
        have q1 := (h1 j _ hj).1
        have q2 := h3 j _ hj
        generalize us j = u at q1 q2
        cases q2
        exact q1
def showL : List Ac := [(1, 7, 6), (3, 0, 5)]
def outL : List ByteArray := [⟨#[117, 55, 58, 54]⟩, ⟨#[109, 48, 58, 53]⟩]
theorem show_spec : Eng.Spec Tryd.prog 11 [] [] [.d (.sl 3 (rM aceR showL))] [] (.d (.v (.string ⟨#[117, 55, 58, 54, 32, 109, 48, 58, 53]⟩))) := by
  refine told_spec mixed f11_told f11_results f11_text rfl (by simp) rfl ?_
  simp only [initS, List.length_cons, List.length_nil, List.range, List.range.loop, List.getD_cons_zero, List.getD_cons_succ, List.cons_append, List.nil_append, Int.toNat_natCast, aceR, aceS]
  simp -implicitDefEqProofs only [RL0, RL1, RL2, RL3, RL4, RL5, RL6, RL7, RL8, chkW, ↓get_cons', ↓hget_cons', ↓hset_cons', St.gh, isNil, evalA, opTs, LOp.args, Nat.reduceBEq, renS, ren1, ren0, renB, only, sg, gmOf, wrN, buildCells, bsRows, Value.oneCell', setAt, eqCells, eqCell, vI, vB, vS, apartW, Nat.reduceEqDiff, Nat.reduceAdd, Nat.reduceSub, Nat.reduceMul, Nat.reduceLT, Nat.reduceLeDiff, Int.reduceEq, Int.reduceNe, Int.reduceLT, Int.reduceLE, reduceCtorEq, ↓reduceIte, ne_eq, eq_self, and_self, str_eq_iff]
  refine vc_loop (fun k : Nat => ⟨[(9, .d (.v (.int .i64 k))), (3, .view 503 0 0 k), (7, .d (.sl 3 (rM aceR showL))), (8, .d (.v (.int .i64 2)))], [(503, ⟨0, .arr 1 (rM strR (outL.take k))⟩)]⟩)
    (fun k => k ≤ 2) (fun k => 2 - k) 0 (by omega) (LE.refl _ _) ?_
  rintro k g1
  have s7 := itoa_spec 7 (by decide)
  rw [show (⟨(Lib.decDigits 7).toArray⟩ : ByteArray) = ⟨#[55]⟩ by decide +kernel] at s7
  have s6 := itoa_spec 6 (by decide)
  rw [show (⟨(Lib.decDigits 6).toArray⟩ : ByteArray) = ⟨#[54]⟩ by decide +kernel] at s6
  have s0 := itoa_spec 0 (by decide)
  rw [show (⟨(Lib.decDigits 0).toArray⟩ : ByteArray) = ⟨#[48]⟩ by decide +kernel] at s0
  have s5 := itoa_spec 5 (by decide)
  rw [show (⟨(Lib.decDigits 5).toArray⟩ : ByteArray) = ⟨#[53]⟩ by decide +kernel] at s5
  have g0 : showL.getD 0 default = (1, 7, 6) := rfl
  have g3 : showL.getD 1 default = (3, 0, 5) := rfl
  have w0 : IntKind.i64.wrap ((1 : Int) - 1) = 0 := by decide
  have w2 : IntKind.i64.wrap ((3 : Int) - 1) = 2 := by decide
  have x1 : ByteArray.extract ⟨#[117, 103, 109]⟩ 0 1 = ⟨#[117]⟩ := by decide +kernel
  have x3 : ByteArray.extract ⟨#[117, 103, 109]⟩ 2 3 = ⟨#[109]⟩ := by decide +kernel
  have sz : ((⟨#[117, 103, 109]⟩ : ByteArray).size : Int) = 3 := rfl
  have n0 : (0 : Int).toNat = 0 := rfl
  have n1 : (1 : Int).toNat = 1 := rfl
  have n2 : (2 : Int).toNat = 2 := rfl
  have n3 : (3 : Int).toNat = 3 := rfl
  have l2 : ((showL.length : Nat) : Int) = 2 := rfl
  have c1 : ((⟨#[117]⟩ : ByteArray) ++ ⟨#[55]⟩ ++ ⟨#[58]⟩ ++ ⟨#[54]⟩) = ⟨#[117, 55, 58, 54]⟩ := by decide +kernel
  have c2 : ((⟨#[109]⟩ : ByteArray) ++ ⟨#[48]⟩ ++ ⟨#[58]⟩ ++ ⟨#[53]⟩) = ⟨#[109, 48, 58, 53]⟩ := by decide +kernel
  have w01 : IntKind.i64.wrap ((0 : Int) + 1) = ((1 : Nat) : Int) := by decide
  have w12 : IntKind.i64.wrap ((1 : Int) + 1) = ((2 : Nat) : Int) := by decide
  have i1 : ((1 : Nat) : Int) = 1 := rfl
  have i2 : ((2 : Nat) : Int) = 2 := rfl
  match k, g1 with
  | 0, _ =>
    simp -implicitDefEqProofs only [RL0, RL1, RL2, RL3, RL4, RL5, RL6, RL7, RL8, chkW, ↓get_cons', ↓hget_cons', ↓hset_cons', St.gh, isNil, evalA, opTs, LOp.args, Nat.reduceBEq, renS, ren1, ren0, renB, only, sg, gmOf, wrN, buildCells, bsRows, Value.oneCell', setAt, eqCells, eqCell, vI, vB, vS, apartW, Nat.reduceEqDiff, Nat.reduceAdd, Nat.reduceSub, Nat.reduceMul, Nat.reduceLT, Nat.reduceLeDiff, Int.reduceEq, Int.reduceNe, Int.reduceLT, Int.reduceLE, reduceCtorEq, ↓reduceIte, ne_eq, eq_self, and_self, str_eq_iff, Int.toNat_natCast, aceR, aceS, g0, w0, x1, n0, n1, sz, l2, Int.natCast_zero]
    refine callLT_of (s7) [] false [] [] ?_ ?_
    · refine CallOk.of ?_ ?_ rfl ?_ rfl rfl rfl rfl ?_ rfl ?_ rfl
      all_goals simp [ML, args1, arg1, args0, lents1, lent1, lent0, lents0, lentB, rowsM, body0, only, sg, injB, apartB, keysOf, cur, resS, ↓get_cons', ↓hget_cons', Value.oneCell', eq_self, and_self, ne_eq, vI, rK_nil, rK_len, rK_take, rM_len, rM_take, Int.toNat_natCast, aceR, aceS]
    simp -implicitDefEqProofs only [RL0, RL1, RL2, RL3, RL4, RL5, RL6, RL7, RL8, chkW, ↓get_cons', ↓hget_cons', ↓hset_cons', St.gh, isNil, evalA, opTs, LOp.args, Nat.reduceBEq, renS, ren1, ren0, renB, only, sg, gmOf, wrN, buildCells, bsRows, Value.oneCell', setAt, eqCells, eqCell, vI, vB, vS, apartW, Nat.reduceEqDiff, Nat.reduceAdd, Nat.reduceSub, Nat.reduceMul, Nat.reduceLT, Nat.reduceLeDiff, Int.reduceEq, Int.reduceNe, Int.reduceLT, Int.reduceLE, reduceCtorEq, ↓reduceIte, ne_eq, eq_self, and_self, str_eq_iff, Int.toNat_natCast, aceR, aceS, callT, cellT]
    refine ⟨by decide +kernel, by decide +kernel, ?_⟩
    refine callLT_of (s6) [] false [] [] ?_ ?_
    · refine CallOk.of ?_ ?_ rfl ?_ rfl rfl rfl rfl ?_ rfl ?_ rfl
      all_goals simp [ML, args1, arg1, args0, lents1, lent1, lent0, lents0, lentB, rowsM, body0, only, sg, injB, apartB, keysOf, cur, resS, ↓get_cons', ↓hget_cons', Value.oneCell', eq_self, and_self, ne_eq, vI, rK_nil, rK_len, rK_take, rM_len, rM_take, Int.toNat_natCast, aceR, aceS]
    simp -implicitDefEqProofs only [RL0, RL1, RL2, RL3, RL4, RL5, RL6, RL7, RL8, chkW, ↓get_cons', ↓hget_cons', ↓hset_cons', St.gh, isNil, evalA, opTs, LOp.args, Nat.reduceBEq, renS, ren1, ren0, renB, only, sg, gmOf, wrN, buildCells, bsRows, Value.oneCell', setAt, eqCells, eqCell, vI, vB, vS, apartW, Nat.reduceEqDiff, Nat.reduceAdd, Nat.reduceSub, Nat.reduceMul, Nat.reduceLT, Nat.reduceLeDiff, Int.reduceEq, Int.reduceNe, Int.reduceLT, Int.reduceLE, reduceCtorEq, ↓reduceIte, ne_eq, eq_self, and_self, str_eq_iff, Int.toNat_natCast, aceR, aceS, callT, cellT]
    rw [c1, w01]
    exact ⟨by decide +kernel, 1, by decide, by decide, LE.refl _ _⟩
  | 1, _ =>
    simp -implicitDefEqProofs only [RL0, RL1, RL2, RL3, RL4, RL5, RL6, RL7, RL8, chkW, ↓get_cons', ↓hget_cons', ↓hset_cons', St.gh, isNil, evalA, opTs, LOp.args, Nat.reduceBEq, renS, ren1, ren0, renB, only, sg, gmOf, wrN, buildCells, bsRows, Value.oneCell', setAt, eqCells, eqCell, vI, vB, vS, apartW, Nat.reduceEqDiff, Nat.reduceAdd, Nat.reduceSub, Nat.reduceMul, Nat.reduceLT, Nat.reduceLeDiff, Int.reduceEq, Int.reduceNe, Int.reduceLT, Int.reduceLE, reduceCtorEq, ↓reduceIte, ne_eq, eq_self, and_self, str_eq_iff, Int.toNat_natCast, aceR, aceS, g3, w2, x3, n2, n3, sz, l2, n1, i1]
    refine callLT_of (s0) [] false [] [] ?_ ?_
    · refine CallOk.of ?_ ?_ rfl ?_ rfl rfl rfl rfl ?_ rfl ?_ rfl
      all_goals simp [ML, args1, arg1, args0, lents1, lent1, lent0, lents0, lentB, rowsM, body0, only, sg, injB, apartB, keysOf, cur, resS, ↓get_cons', ↓hget_cons', Value.oneCell', eq_self, and_self, ne_eq, vI, rK_nil, rK_len, rK_take, rM_len, rM_take, Int.toNat_natCast, aceR, aceS]
    simp -implicitDefEqProofs only [RL0, RL1, RL2, RL3, RL4, RL5, RL6, RL7, RL8, chkW, ↓get_cons', ↓hget_cons', ↓hset_cons', St.gh, isNil, evalA, opTs, LOp.args, Nat.reduceBEq, renS, ren1, ren0, renB, only, sg, gmOf, wrN, buildCells, bsRows, Value.oneCell', setAt, eqCells, eqCell, vI, vB, vS, apartW, Nat.reduceEqDiff, Nat.reduceAdd, Nat.reduceSub, Nat.reduceMul, Nat.reduceLT, Nat.reduceLeDiff, Int.reduceEq, Int.reduceNe, Int.reduceLT, Int.reduceLE, reduceCtorEq, ↓reduceIte, ne_eq, eq_self, and_self, str_eq_iff, Int.toNat_natCast, aceR, aceS, callT, cellT]
    refine ⟨by decide +kernel, by decide +kernel, ?_⟩
    refine callLT_of (s5) [] false [] [] ?_ ?_
    · refine CallOk.of ?_ ?_ rfl ?_ rfl rfl rfl rfl ?_ rfl ?_ rfl
      all_goals simp [ML, args1, arg1, args0, lents1, lent1, lent0, lents0, lentB, rowsM, body0, only, sg, injB, apartB, keysOf, cur, resS, ↓get_cons', ↓hget_cons', Value.oneCell', eq_self, and_self, ne_eq, vI, rK_nil, rK_len, rK_take, rM_len, rM_take, Int.toNat_natCast, aceR, aceS]
    simp -implicitDefEqProofs only [RL0, RL1, RL2, RL3, RL4, RL5, RL6, RL7, RL8, chkW, ↓get_cons', ↓hget_cons', ↓hset_cons', St.gh, isNil, evalA, opTs, LOp.args, Nat.reduceBEq, renS, ren1, ren0, renB, only, sg, gmOf, wrN, buildCells, bsRows, Value.oneCell', setAt, eqCells, eqCell, vI, vB, vS, apartW, Nat.reduceEqDiff, Nat.reduceAdd, Nat.reduceSub, Nat.reduceMul, Nat.reduceLT, Nat.reduceLeDiff, Int.reduceEq, Int.reduceNe, Int.reduceLT, Int.reduceLE, reduceCtorEq, ↓reduceIte, ne_eq, eq_self, and_self, str_eq_iff, Int.toNat_natCast, aceR, aceS, callT, cellT]
    rw [c2, w12]
    refine ⟨by decide +kernel, by decide, 2, by decide, by decide, LE.refl _ _⟩
  | 2, _ =>
    simp -implicitDefEqProofs only [RL0, RL1, RL2, RL3, RL4, RL5, RL6, RL7, RL8, chkW, ↓get_cons', ↓hget_cons', ↓hset_cons', St.gh, isNil, evalA, opTs, LOp.args, Nat.reduceBEq, renS, ren1, ren0, renB, only, sg, gmOf, wrN, buildCells, bsRows, Value.oneCell', setAt, eqCells, eqCell, vI, vB, vS, apartW, Nat.reduceEqDiff, Nat.reduceAdd, Nat.reduceSub, Nat.reduceMul, Nat.reduceLT, Nat.reduceLeDiff, Int.reduceEq, Int.reduceNe, Int.reduceLT, Int.reduceLE, reduceCtorEq, ↓reduceIte, ne_eq, eq_self, and_self, str_eq_iff, Int.toNat_natCast, aceR, aceS, i2]
    have j1 := join_spec outL ⟨#[32]⟩ (by decide) (by decide) (by decide +kernel)
    rw [show (⟨(Lib.join (outL.map (·.data.toList)) (⟨#[32]⟩ : ByteArray).data.toList).toArray⟩ : ByteArray) = ⟨#[117, 55, 58, 54, 32, 109, 48, 58, 53]⟩ by decide +kernel] at j1
    have o2 : List.take 2 outL = outL := rfl
    have ol : outL.length = 2 := rfl
    refine callL_of (j1) [] true [503] [] ?_ ?_
    · refine CallOk.of ?_ ?_ rfl ?_ rfl rfl rfl rfl ?_ rfl ?_ rfl
      all_goals simp [ML, args1, arg1, args0, lents1, lent1, lent0, lents0, lentB, rowsM, body0, only, sg, injB, apartB, keysOf, cur, resS, ↓get_cons', ↓hget_cons', Value.oneCell', eq_self, and_self, ne_eq, vI, rK_nil, rK_len, rK_take, rM_len, rM_take, Int.toNat_natCast, aceR, aceS, S.flat2, S.flat1, S.flat, Body.flat, flat_strR, o2, ol]
    simp -implicitDefEqProofs only [RL0, RL1, RL2, RL3, RL4, RL5, RL6, RL7, RL8, chkW, ↓get_cons', ↓hget_cons', ↓hset_cons', St.gh, isNil, evalA, opTs, LOp.args, Nat.reduceBEq, renS, ren1, ren0, renB, only, sg, gmOf, wrN, buildCells, bsRows, Value.oneCell', setAt, eqCells, eqCell, vI, vB, vS, apartW, Nat.reduceEqDiff, Nat.reduceAdd, Nat.reduceSub, Nat.reduceMul, Nat.reduceLT, Nat.reduceLeDiff, Int.reduceEq, Int.reduceNe, Int.reduceLT, Int.reduceLE, reduceCtorEq, ↓reduceIte, ne_eq, eq_self, and_self, str_eq_iff, Int.toNat_natCast, aceR, aceS]
    refine RetOk.of [] [] ?_ ?_ rfl ?_ rfl rfl ?_
    all_goals simp [ML, args1, arg1, args0, lents1, lent1, lent0, lents0, lentB, rowsM, body0, only, sg, injB, apartB, keysOf, cur, resS, ↓get_cons', ↓hget_cons', Value.oneCell', eq_self, and_self, ne_eq, vI, rK_nil, Int.toNat_natCast, aceR, aceS]
end Go.Proofs.Ac
