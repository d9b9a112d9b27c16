import Derived.Test.YtfbondeldbnmbaaBitsText
import Derived.Test.YtfbondeldbnmbaaEngX
set_option linter.unusedVariables false
set_option linter.unusedSimpArgs false
namespace Go.Proofs.Bits
open Go.RowKit Go.Lib Go.Eng Go.Proofs Go.IntWalk
set_option maxRecDepth 100000
set_option maxHeartbeats 2000000
theorem mixed : Try.prog.follows .mixedOrders = true := by kernel_rfl

/-- One more bit. -/
def grow (b : List Int) (L : Nat) : List Int := if L % 8 = 0 then b ++ [0] else b
def put1 (n j : Nat) (b : List Int) (L : Nat) : List Int :=
  (grow b L).set (L / 8) ((((grow b L).getD (L / 8) 0).toNat ||| ((n >>> j) &&& 1) <<< (7 - L % 8) : Nat) : Int)
def putN (n : Nat) : Nat → List Int → Nat → List Int
  | 0, b, _ => b
  | j + 1, b, L => putN n j (put1 n j b L) (L + 1)

def outH (b : List Int) (L : Nat) : List (Nat × Ob) := [(1000, ⟨0, .box [.view 1001 0 0 b.length, .d (.v (.int .i64 L))]⟩), (1001, ⟨0, .arr 1 (rK .u8 b)⟩)]

def okO (b : List Int) (L : Nat) : Prop := b.length = (L + 7) / 8 ∧ ∀ x ∈ b, 0 ≤ x ∧ x < 256

theorem grow_len {b : List Int} {L : Nat} (h : okO b L) : (grow b L).length = L / 8 + 1 := by
  unfold grow
  have := h.1
  split
  · rw [List.length_append, List.length_singleton]; omega
  · omega
theorem grow_ok {b : List Int} {L : Nat} (h : okO b L) : ∀ x ∈ grow b L, 0 ≤ x ∧ x < 256 := by
  unfold grow
  intro x hx
  split at hx
  · rcases List.mem_append.1 hx with hx | hx
    · exact h.2 x hx
    · simp at hx; subst hx; omega
  · exact h.2 x hx

theorem bit_lt (n j s : Nat) (hs : s < 8) : ((n >>> j) &&& 1) <<< s < 256 := by
  have h1 : (n >>> j) &&& 1 < 2 := by rw [Nat.and_one_is_mod]; omega
  rw [Nat.shiftLeft_eq]
  have : 2 ^ s ≤ 2 ^ 7 := Nat.pow_le_pow_right (by omega) (by omega)
  have := Nat.mul_le_mul (show (n >>> j) &&& 1 ≤ 1 by omega) this
  omega

theorem put1_ok {n j : Nat} {b : List Int} {L : Nat} (h : okO b L) : okO (put1 n j b L) (L + 1) := by
  constructor
  · unfold put1
    rw [List.length_set, grow_len h]; omega
  · intro x hx
    unfold put1 at hx
    have hg : ((grow b L).getD (L / 8) 0).toNat < 256 := by
      rw [List.getD_eq_getElem?_getD]
      cases hq : (grow b L)[L / 8]? with
      | none => simp
      | some y => have := grow_ok h y (List.mem_of_getElem? hq); simp; omega
    rcases List.mem_or_eq_of_mem_set hx with hx | rfl
    · exact grow_ok h x hx
    · have := Nat.or_lt_two_pow (n := 8) hg (bit_lt n j (7 - L % 8) (by omega))
      omega

theorem bit_val (n j s : Nat) (x : Int) (hn : n < 2 ^ 64) (hj : j ≤ 63) (hs : s < 8) (hx : 0 ≤ x ∧ x < 256) :
    IntKind.u8.wrap ((BitVec.ofInt IntKind.u8.bits x ||| BitVec.ofInt IntKind.u8.bits (IntKind.u8.wrap (IntKind.u8.wrap (IntKind.u64.wrap ((BitVec.ofInt IntKind.u64.bits ((n : Int).fdiv (2 ^ min ((j : Nat) : Int).toNat IntKind.u64.bits)) &&& BitVec.ofInt IntKind.u64.bits 1).toNat : Int)) *
        2 ^ min ((s : Nat) : Int).toNat IntKind.u8.bits))).toNat : Int) = ((x.toNat ||| ((n >>> j) &&& 1) <<< s : Nat) : Int) := by
  have e1 : min ((j : Nat) : Int).toNat IntKind.u64.bits = j := by simp [IntKind.bits]; omega
  have e2 : min ((s : Nat) : Int).toNat IntKind.u8.bits = s := by simp [IntKind.bits]; omega
  rw [e1, e2, shrU]
  have hsh : n >>> j < 2 ^ IntKind.u64.bits := Nat.lt_of_le_of_lt (Nat.shiftRight_le _ _) hn
  have e3 := andU .u64 rfl (n >>> j) 1 hsh (by decide)
  rw [show ((1 : Nat) : Int) = 1 from rfl] at e3
  rw [e3]
  have h1 : (n >>> j) &&& 1 < 2 := by rw [Nat.and_one_is_mod]; omega
  rw [wrapU .u8 rfl ((n >>> j) &&& 1) (by show (n >>> j) &&& 1 < 2 ^ 8; omega), shlU .u8 rfl, Nat.mod_eq_of_lt (show ((n >>> j) &&& 1) <<< s < 2 ^ IntKind.u8.bits from bit_lt n j s hs)]
  obtain ⟨y, rfl⟩ : ∃ y : Nat, x = y := ⟨x.toNat, by omega⟩
  rw [orU .u8 rfl y _ (by show y < 2 ^ 8; omega) (bit_lt n j s hs)]
  rfl

theorem put_pass (n i L : Nat) (b : List Int) (tl : List (Nat × S)) (K : Exit → St → Prop) (hn : n < 2 ^ 64) (hi : i ≤ 32) (hL : L ≤ 2 ^ 41) (hb : okO b L)
    (h0 : i = 0 → K .ret ⟨[(6, .d (.v (.int .i64 0)))], outH b L⟩)
    (h1 : ∀ m, i = m + 1 → K (.goto 0) ⟨[(0, .ptr 1000 0 0 0), (1, .d (.v (.int .u64 n))), (2, .d (.v (.int .i64 m)))], outH (put1 n m b L) (L + 1)⟩) :
    vc Try.prog [1000] l13r11 ⟨(0, .ptr 1000 0 0 0) :: (1, .d (.v (.int .u64 n))) :: (2, .d (.v (.int .i64 i))) :: tl, outH b L⟩ K := by
  have hlen := hb.1
  simp only [outH]
  simp -implicitDefEqProofs only [mark_eq, vc_skip, vc_reg0, vc_reg1, vc_seq, vc_cond, vc_block, vc_exit, vc_label, vc_goto, vc_ret, go0_nil, go0_cons, go0_guard, go1_nil, go1_cons, go1_guard, chkW, Ks_n, Ks_r, Ks_e, Ks_g, Kb_n, Kb_r, Kb_e, Kb_g, Kl_n, Kl_r, Kl_e, Kl_g, K0_n, K0_r, K0_e, K0_g, Kg_n, Kg_r, Kg_e, Kg_g, ea_t, ea_c, eb_t, eb_c, att_d, att_pat, att_any, att_tup, att_view, att_ptr, att_agg, ↓get_cons', get_nil', ↓hget_cons', hget_nil', ↓hset_cons', hset_nil', wrL_nil', wrL_cons', app_some, app_none, norm_none, norm_some, ghs_nil, ghs_cons, St.gh, isNil, Option.isNone_none, Option.isNone_some, nextGen_none, nextGen_some, evalA, do_mv, do_pick, do_alloc, do_box, do_build, do_bslice, do_load, do_store, do_nilck, do_bin, do_eqb, do_eqp, do_eqs, do_un, do_toInt, do_toStr, do_toBytes, do_mksl, do_slc, do_slcs, do_fad, do_fld, do_iad, do_ixs, do_ext, do_call, do_len, do_lenS, do_app, do_appStr, do_copy, do_mm, dt_call, dt_mv, dt_pick, dt_alloc, dt_box, dt_build, dt_bslice, dt_load, dt_store, dt_nilck, dt_bin, dt_eqb, dt_eqp, dt_eqs, dt_un, dt_toInt, dt_toBytes, dt_toStr, dt_mksl, dt_slc, dt_slcs, dt_fad, dt_fld, dt_iad, dt_ixs, dt_ext, dt_len, dt_lenS, dt_app, dt_appStr, dt_copy, dt_mm, opTs, LOp.args, condW_decide, condW_true, condW_false, guard_decide_t, guard_decide_f, guard_tt, guard_tf, guard_ft, guard_ff, pick_true, pick_false, pick_decide, not_decide', w_ld_pat, w_ld_box, load_rK, load_rM, w_tk_t, w_tk_f, w_st_box, store_rK, w_st_rM, w_nil_ptr, w_nil_pat, w_fad_ptr, w_fad_pat, w_fld_t, w_fld_f, w_ext, w_iad_view, iad_rK, iad_rM, ixs_byt, w_b0, w_b1, w_b2, w_b3, w_slc_sl, w_slc_nil, w_slc_view, w_slcs, w_len_sl, w_len_nil, w_len_view, w_lenS, w_ro_sl, w_ro_nil, w_ro_view, w_ro_sl', w_ro_nil', w_ro_view', byte_rK, str_rK, Nat.le_refl, List.take_length, w_fi_sl, w_fi_nil, w_fi_view, w_ap_nil, w_ap_view, w_bin, w_un, w_eqb, w_eqp_n, w_eqp_p, w_eqp_t, w_eqs, w_toInt, w_toStr, w_mksl, w_mm, w_toBytes, w_appStr, w_some, w_none, b_add, b_sub, b_mul, b_quo, b_rem, b_and, b_or, b_xor, b_andNot, b_shl, b_shr, b_eql, b_neq, b_lss, b_leq, b_gtr, b_geq, b_sadd, b_seq, b_sne, b_slt, b_sle, b_sgt, b_sge, u_neg, u_xor, u_not, c_2t, c_2d, c_2p, c_2a, c_2n, c_2v, c_2q, c_1d, c_1p, c_1a, c_1n, c_1v, c_1q, c_0d, c_0p, c_0n, c_0v, c_0q, cv_n, cv_t, cv_a, cv_b, cv_d, cv_f, no_f, kp_eq, r2_t, r2_d, r2_p, r2_w, r2_q, r2_a, r2_n, bx_a, bx_b, bx_d, beq_self_eq_true, Bool.or_true, Bool.true_or, Nat.reduceBEq, n_nil, n_cons, no_t, no_a, no_b, no_d, cb_a, cb_b, cb_d, co_s, co_n, hd_nil, hd_cons, on_v, on_s, on_p, on_w, on_q, ce_d, ce_p, ce_w, ce_q, ce_a, re_d, re_p, re_w, re_q, re_a, re_t, re_n, cr_d, cr_p, cr_w, cr_q, cr_n, pc_nil, pc_d, pc_w, renS, ren1, ren0, renB, only, sg, gmOf, wrN, List.filterMap_cons, List.filterMap_nil, List.reverse_cons, List.reverse_nil, rK_nil, rK_one, rK_cons, rK_app, rK_rep, rK_len, rK_take, rK_drop, rK_set, rM_len, rM_take, rM_drop, rM_app, buildCells, bsRows, Value.oneCell', setAt, eqCells, eqCell, vI, vB, vS, apartW, Option.getD_some, Option.getD_none, Option.map_some, Option.map_none, List.head?_cons, List.head?_nil, List.map_cons, List.map_nil, List.append_nil, List.nil_append, List.cons_append, List.flatMap_cons, List.flatMap_nil, List.drop_zero, List.drop_succ_cons, List.drop_nil, List.take_zero, List.take_succ_cons, List.take_nil, List.length_cons, List.length_nil, List.all_cons, List.all_nil, List.getD_cons_zero, List.getD_cons_succ, List.getD_nil, List.set_cons_zero, List.set_cons_succ, List.replicate_succ, List.replicate_zero, List.nodup_nil, List.mem_cons, List.not_mem_nil, List.contains_cons, List.contains_nil, Nat.reduceEqDiff, Nat.reduceAdd, Nat.reduceSub, Nat.reduceMul, Nat.reduceLT, Nat.reduceLeDiff, Int.reduceEq, Int.reduceNe, Int.reduceLT, Int.reduceLE, reduceCtorEq, ↓reduceIte, true_and, and_true, false_and, and_false, true_or, or_true, false_or, or_false, not_true_eq_false, not_false_eq_true, Bool.not_true, Bool.not_false, Bool.and_true, Bool.true_and, Bool.and_false, Bool.false_and, Bool.or_false, Bool.false_or, decide_true, decide_false, ne_eq, eq_self, forall_const, implies_true, Nat.add_zero, Nat.zero_add, Nat.sub_zero, and_self, Bool.false_eq_true]
  refine ⟨fun e => h0 (by omega), fun e => ?_⟩
  obtain ⟨m, rfl⟩ : ∃ m, i = m + 1 := ⟨i - 1, by omega⟩
  have q1 := h1 m rfl
  have e1 : IntKind.i64.wrap ((L : Int).tdiv 8) = ((L / 8 : Nat) : Int) := by rw [i64_quo _ _ (by omega)]; omega
  have e2 : IntKind.i64.wrap (((m + 1 : Nat) : Int) - 1) = (m : Int) := by rw [i64_in _ (by omega)]; omega
  have e3 : IntKind.u64.wrap (m : Int) = (m : Int) := u64_in _ (by omega)
  have e4 : IntKind.i64.wrap (7 - (L : Int).tmod 8) = ((7 - L % 8 : Nat) : Int) := by
    rw [Int.tmod_eq_emod_of_nonneg (by omega), i64_in _ (by omega)]; omega
  have e5 : IntKind.u64.wrap ((7 - L % 8 : Nat) : Int) = ((7 - L % 8 : Nat) : Int) := u64_in _ (by omega)
  have e6 : IntKind.i64.wrap ((L : Int) + 1) = ((L + 1 : Nat) : Int) := by rw [i64_in _ (by omega)]; omega
  have e7 : (((L / 8 : Nat) : Int)).toNat = L / 8 := by omega
  have hg := grow_len hb
  have hx : 0 ≤ (grow b L).getD (L / 8) 0 ∧ (grow b L).getD (L / 8) 0 < 256 := by
    rw [List.getD_eq_getElem?_getD, List.getElem?_eq_getElem (by omega)]
    exact grow_ok hb _ (List.getElem_mem _)
  have hv := bit_val n m (7 - L % 8) _ hn (by omega) (by omega) hx
  have tm : (L : Int).tmod 8 = ((L % 8 : Nat) : Int) := by rw [Int.tmod_eq_emod_of_nonneg (by omega)]; omega
  simp only [e1, e2, e3, e4, e5, e6, e7]
  constructor
  · intro hz
    have hz' : L % 8 = 0 := by omega
    have hgr : grow b L = b ++ [0] := by simp [grow, hz']
    rw [hgr] at hg hv
    rw [hv]
    have hpl : (put1 n m b L).length = b.length + 1 := by rw [put1, List.length_set, hgr]; simp
    have hpe : put1 n m b L = (b ++ [0]).set (L / 8) ((((b ++ [0]).getD (L / 8) 0).toNat ||| (n >>> m &&& 1) <<< (7 - L % 8) : Nat) : Int) := by rw [put1, hgr]
    simp only [outH, hpl] at q1
    rw [hpe] at q1
    simp only [List.length_append, List.length_singleton] at hg ⊢
    (repeat' apply And.intro) <;> first | omega | exact q1
  · intro hz
    have hz' : ¬ L % 8 = 0 := by omega
    have hgr : grow b L = b := by simp [grow, hz']
    rw [hgr] at hg hv
    rw [hv]
    have hpl : (put1 n m b L).length = b.length := by rw [put1, List.length_set, hgr]
    have hpe : put1 n m b L = b.set (L / 8) (((b.getD (L / 8) 0).toNat ||| (n >>> m &&& 1) <<< (7 - L % 8) : Nat) : Int) := by rw [put1, hgr]
    simp only [outH, hpl] at q1
    rw [hpe] at q1
    (repeat' apply And.intro) <;> first | omega | exact q1

theorem putN_ok {n : Nat} : ∀ {j : Nat} {b : List Int} {L : Nat}, okO b L → okO (putN n j b L) (L + j)
  | 0, _, _, h => h
  | j + 1, b, L, h => by
    have := putN_ok (n := n) (j := j) (put1_ok (n := n) (j := j) h)
    rw [show L + 1 + j = L + (j + 1) by omega] at this
    exact this

theorem put_spec (n j L : Nat) (b : List Int) (hn : n < 2 ^ 64) (hj : j ≤ 32) (hL : L ≤ 2 ^ 40) (hb : okO b L) :
    Eng.Spec Try.prog 13 [1000] (outH b L) [.ptr 1000 0 0 0, vI .u64 n, vI .i64 j] (outH (putN n j b L) (L + j)) (vI .i64 0) := by
  refine told_spec mixed f13_told f13_results f13_text rfl (by simp) rfl ?_
  have hret : ∀ e : Exit, e = .ret → (e = .normal ∨ e = .ret) ∧ RetOk [6] ⟨[(6, .d (.v (.int .i64 0)))], outH (putN n j b L) (L + j)⟩ [1000] (outH (putN n j b L) (L + j)) (vI .i64 0) := by
    intro e he
    refine ⟨.inr he, RetOk.of [(1000, 1000), (1001, 1001)] [] ?_ ?_ rfl ?_ rfl rfl ?_⟩
    all_goals (simp only [outH, vI]; simp [args1, arg1, args0, m_slv, m_slv1, m_nil, m_dd, m_ss, m_cur1, m_view, m_ptr, m_pat, m_any, lents1, lent1, lent0, lents0, lentB, rowsM, body0, only, sg, injB, apartB, keysOf, cur, resS, ↓get_cons', get_nil', ↓hget_cons', hget_nil', on_v, on_s, on_p, on_w, on_q, Value.oneCell', List.map_cons, List.map_nil, List.all_cons, List.all_nil, List.append_nil, List.nil_append, List.cons_append, List.not_mem_nil, List.mem_cons, List.contains_cons, List.contains_nil, List.length_cons, List.length_nil, Nat.reduceEqDiff, Nat.reduceBEq, reduceCtorEq, ↓reduceIte, true_and, and_true, false_and, and_false, true_or, or_true, false_or, or_false, Option.some.injEq, exists_eq_left', exists_eq_left, forall_const, implies_true, eq_self, decide_true, decide_false, Bool.not_true, Bool.not_false, Bool.and_true, Bool.true_and, Bool.and_false, Bool.false_and, Bool.or_false, Bool.false_or, Bool.or_true, Bool.true_or, beq_self_eq_true, Option.some_beq_some, reduceBEq, Bool.and_self, and_self, not_false_eq_true, Nat.add_zero, Nat.zero_add, forall_eq, false_implies, ne_eq, Bool.and_eq_true, Bool.or_eq_true])
  simp only [initS, List.length_cons, List.length_nil, List.range, List.range.loop, List.getD_cons_zero, List.getD_cons_succ, vI]
  have hpass : ∀ (Q : Exit → St → Prop) (tl : List (Nat × S)) (i : Nat) (b' : List Int) (L' : Nat), i ≤ j → L' + i = L + j → okO b' L' → putN n i b' L' = putN n j b L →
      (∀ st, Q .ret st = ((Exit.ret = .normal ∨ Exit.ret = .ret) ∧ RetOk [6] st [1000] (outH (putN n j b L) (L + j)) (vI .i64 0))) →
      (∀ m, i = m + 1 → Q (.goto 0) ⟨[(0, .ptr 1000 0 0 0), (1, .d (.v (.int .u64 n))), (2, .d (.v (.int .i64 m)))], outH (put1 n m b' L') (L' + 1)⟩) →
      vc Try.prog [1000] l13r11 ⟨(0, .ptr 1000 0 0 0) :: (1, .d (.v (.int .u64 n))) :: (2, .d (.v (.int .i64 i))) :: tl, outH b' L'⟩ Q := by
    intro Q tl i b' L' h1 h2 h3 h4 h5 h6
    refine put_pass n i L' b' tl Q hn (by omega) (by omega) h3 (fun e => ?_) h6
    subst e
    have e1 : b' = putN n j b L := h4
    have e2 : L' = L + j := by omega
    rw [h5, e1, e2]
    exact hret _ rfl
  simp -implicitDefEqProofs only [mark_eq, vc_skip, vc_reg0, vc_reg1, vc_seq, vc_cond, vc_block, vc_exit, vc_goto, vc_ret, go0_nil, go0_cons, go0_guard, go1_nil, go1_cons, go1_guard, chkW, Ks_n, Ks_r, Ks_e, Ks_g, Kb_n, Kb_r, Kb_e, Kb_g, Kl_n, Kl_r, Kl_e, Kl_g, K0_n, K0_r, K0_e, K0_g, Kg_n, Kg_r, Kg_e, Kg_g, ea_t, ea_c, eb_t, eb_c, att_d, att_pat, att_any, att_tup, att_view, att_ptr, att_agg, ↓get_cons', get_nil', ↓hget_cons', hget_nil', ↓hset_cons', hset_nil', wrL_nil', wrL_cons', app_some, app_none, norm_none, norm_some, ghs_nil, ghs_cons, St.gh, isNil, Option.isNone_none, Option.isNone_some, nextGen_none, nextGen_some, evalA, do_mv, do_pick, do_alloc, do_box, do_build, do_bslice, do_load, do_store, do_nilck, do_bin, do_eqb, do_eqp, do_eqs, do_un, do_toInt, do_toStr, do_toBytes, do_mksl, do_slc, do_slcs, do_fad, do_fld, do_iad, do_ixs, do_ext, do_call, do_len, do_lenS, do_app, do_appStr, do_copy, do_mm, dt_call, dt_mv, dt_pick, dt_alloc, dt_box, dt_build, dt_bslice, dt_load, dt_store, dt_nilck, dt_bin, dt_eqb, dt_eqp, dt_eqs, dt_un, dt_toInt, dt_toBytes, dt_toStr, dt_mksl, dt_slc, dt_slcs, dt_fad, dt_fld, dt_iad, dt_ixs, dt_ext, dt_len, dt_lenS, dt_app, dt_appStr, dt_copy, dt_mm, opTs, LOp.args, condW_decide, condW_true, condW_false, guard_decide_t, guard_decide_f, guard_tt, guard_tf, guard_ft, guard_ff, pick_true, pick_false, pick_decide, not_decide', w_ld_pat, w_ld_box, load_rK, load_rM, w_tk_t, w_tk_f, w_st_box, store_rK, w_st_rM, w_nil_ptr, w_nil_pat, w_fad_ptr, w_fad_pat, w_fld_t, w_fld_f, w_ext, w_iad_view, iad_rK, iad_rM, ixs_byt, w_b0, w_b1, w_b2, w_b3, w_slc_sl, w_slc_nil, w_slc_view, w_slcs, w_len_sl, w_len_nil, w_len_view, w_lenS, w_ro_sl, w_ro_nil, w_ro_view, w_ro_sl', w_ro_nil', w_ro_view', byte_rK, str_rK, Nat.le_refl, List.take_length, w_fi_sl, w_fi_nil, w_fi_view, w_ap_nil, w_ap_view, w_bin, w_un, w_eqb, w_eqp_n, w_eqp_p, w_eqp_t, w_eqs, w_toInt, w_toStr, w_mksl, w_mm, w_toBytes, w_appStr, w_some, w_none, b_add, b_sub, b_mul, b_quo, b_rem, b_and, b_or, b_xor, b_andNot, b_shl, b_shr, b_eql, b_neq, b_lss, b_leq, b_gtr, b_geq, b_sadd, b_seq, b_sne, b_slt, b_sle, b_sgt, b_sge, u_neg, u_xor, u_not, c_2t, c_2d, c_2p, c_2a, c_2n, c_2v, c_2q, c_1d, c_1p, c_1a, c_1n, c_1v, c_1q, c_0d, c_0p, c_0n, c_0v, c_0q, cv_n, cv_t, cv_a, cv_b, cv_d, cv_f, no_f, kp_eq, r2_t, r2_d, r2_p, r2_w, r2_q, r2_a, r2_n, bx_a, bx_b, bx_d, beq_self_eq_true, Bool.or_true, Bool.true_or, Nat.reduceBEq, n_nil, n_cons, no_t, no_a, no_b, no_d, cb_a, cb_b, cb_d, co_s, co_n, hd_nil, hd_cons, on_v, on_s, on_p, on_w, on_q, ce_d, ce_p, ce_w, ce_q, ce_a, re_d, re_p, re_w, re_q, re_a, re_t, re_n, cr_d, cr_p, cr_w, cr_q, cr_n, pc_nil, pc_d, pc_w, renS, ren1, ren0, renB, only, sg, gmOf, wrN, List.filterMap_cons, List.filterMap_nil, List.reverse_cons, List.reverse_nil, rK_nil, rK_one, rK_cons, rK_app, rK_rep, rK_len, rK_take, rK_drop, rK_set, rM_len, rM_take, rM_drop, rM_app, buildCells, bsRows, Value.oneCell', setAt, eqCells, eqCell, vI, vB, vS, apartW, Option.getD_some, Option.getD_none, Option.map_some, Option.map_none, List.head?_cons, List.head?_nil, List.map_cons, List.map_nil, List.append_nil, List.nil_append, List.cons_append, List.flatMap_cons, List.flatMap_nil, List.drop_zero, List.drop_succ_cons, List.drop_nil, List.take_zero, List.take_succ_cons, List.take_nil, List.length_cons, List.length_nil, List.all_cons, List.all_nil, List.getD_cons_zero, List.getD_cons_succ, List.getD_nil, List.set_cons_zero, List.set_cons_succ, List.replicate_succ, List.replicate_zero, List.nodup_nil, List.mem_cons, List.not_mem_nil, List.contains_cons, List.contains_nil, Nat.reduceEqDiff, Nat.reduceAdd, Nat.reduceSub, Nat.reduceMul, Nat.reduceLT, Nat.reduceLeDiff, Int.reduceEq, Int.reduceNe, Int.reduceLT, Int.reduceLE, reduceCtorEq, ↓reduceIte, true_and, and_true, false_and, and_false, true_or, or_true, false_or, or_false, not_true_eq_false, not_false_eq_true, Bool.not_true, Bool.not_false, Bool.and_true, Bool.true_and, Bool.and_false, Bool.false_and, Bool.or_false, Bool.false_or, decide_true, decide_false, ne_eq, eq_self, forall_const, implies_true, Nat.add_zero, Nat.zero_add, Nat.sub_zero, and_self, Bool.false_eq_true, outH]
  refine vc_scope (fun x : Nat × List Int × Nat => ⟨[(0, .ptr 1000 0 0 0), (1, .d (.v (.int .u64 n))), (2, .d (.v (.int .i64 x.1)))], outH x.2.1 x.2.2⟩)
    (fun x => x.1 ≤ j ∧ x.2.2 + x.1 = L + j ∧ okO x.2.1 x.2.2 ∧ putN n x.1 x.2.1 x.2.2 = putN n j b L) (fun x => x.1) ?_ ?_
  · simp -implicitDefEqProofs only [mark_eq, vc_skip, vc_reg0, vc_reg1, vc_seq, vc_cond, vc_block, vc_exit, vc_goto, vc_ret, go0_nil, go0_cons, go0_guard, go1_nil, go1_cons, go1_guard, chkW, Ks_n, Ks_r, Ks_e, Ks_g, Kb_n, Kb_r, Kb_e, Kb_g, Kl_n, Kl_r, Kl_e, Kl_g, K0_n, K0_r, K0_e, K0_g, Kg_n, Kg_r, Kg_e, Kg_g, ea_t, ea_c, eb_t, eb_c, att_d, att_pat, att_any, att_tup, att_view, att_ptr, att_agg, ↓get_cons', get_nil', ↓hget_cons', hget_nil', ↓hset_cons', hset_nil', wrL_nil', wrL_cons', app_some, app_none, norm_none, norm_some, ghs_nil, ghs_cons, St.gh, isNil, Option.isNone_none, Option.isNone_some, nextGen_none, nextGen_some, evalA, do_mv, do_pick, do_alloc, do_box, do_build, do_bslice, do_load, do_store, do_nilck, do_bin, do_eqb, do_eqp, do_eqs, do_un, do_toInt, do_toStr, do_toBytes, do_mksl, do_slc, do_slcs, do_fad, do_fld, do_iad, do_ixs, do_ext, do_call, do_len, do_lenS, do_app, do_appStr, do_copy, do_mm, dt_call, dt_mv, dt_pick, dt_alloc, dt_box, dt_build, dt_bslice, dt_load, dt_store, dt_nilck, dt_bin, dt_eqb, dt_eqp, dt_eqs, dt_un, dt_toInt, dt_toBytes, dt_toStr, dt_mksl, dt_slc, dt_slcs, dt_fad, dt_fld, dt_iad, dt_ixs, dt_ext, dt_len, dt_lenS, dt_app, dt_appStr, dt_copy, dt_mm, opTs, LOp.args, condW_decide, condW_true, condW_false, guard_decide_t, guard_decide_f, guard_tt, guard_tf, guard_ft, guard_ff, pick_true, pick_false, pick_decide, not_decide', w_ld_pat, w_ld_box, load_rK, load_rM, w_tk_t, w_tk_f, w_st_box, store_rK, w_st_rM, w_nil_ptr, w_nil_pat, w_fad_ptr, w_fad_pat, w_fld_t, w_fld_f, w_ext, w_iad_view, iad_rK, iad_rM, ixs_byt, w_b0, w_b1, w_b2, w_b3, w_slc_sl, w_slc_nil, w_slc_view, w_slcs, w_len_sl, w_len_nil, w_len_view, w_lenS, w_ro_sl, w_ro_nil, w_ro_view, w_ro_sl', w_ro_nil', w_ro_view', byte_rK, str_rK, Nat.le_refl, List.take_length, w_fi_sl, w_fi_nil, w_fi_view, w_ap_nil, w_ap_view, w_bin, w_un, w_eqb, w_eqp_n, w_eqp_p, w_eqp_t, w_eqs, w_toInt, w_toStr, w_mksl, w_mm, w_toBytes, w_appStr, w_some, w_none, b_add, b_sub, b_mul, b_quo, b_rem, b_and, b_or, b_xor, b_andNot, b_shl, b_shr, b_eql, b_neq, b_lss, b_leq, b_gtr, b_geq, b_sadd, b_seq, b_sne, b_slt, b_sle, b_sgt, b_sge, u_neg, u_xor, u_not, c_2t, c_2d, c_2p, c_2a, c_2n, c_2v, c_2q, c_1d, c_1p, c_1a, c_1n, c_1v, c_1q, c_0d, c_0p, c_0n, c_0v, c_0q, cv_n, cv_t, cv_a, cv_b, cv_d, cv_f, no_f, kp_eq, r2_t, r2_d, r2_p, r2_w, r2_q, r2_a, r2_n, bx_a, bx_b, bx_d, beq_self_eq_true, Bool.or_true, Bool.true_or, Nat.reduceBEq, n_nil, n_cons, no_t, no_a, no_b, no_d, cb_a, cb_b, cb_d, co_s, co_n, hd_nil, hd_cons, on_v, on_s, on_p, on_w, on_q, ce_d, ce_p, ce_w, ce_q, ce_a, re_d, re_p, re_w, re_q, re_a, re_t, re_n, cr_d, cr_p, cr_w, cr_q, cr_n, pc_nil, pc_d, pc_w, renS, ren1, ren0, renB, only, sg, gmOf, wrN, List.filterMap_cons, List.filterMap_nil, List.reverse_cons, List.reverse_nil, rK_nil, rK_one, rK_cons, rK_app, rK_rep, rK_len, rK_take, rK_drop, rK_set, rM_len, rM_take, rM_drop, rM_app, buildCells, bsRows, Value.oneCell', setAt, eqCells, eqCell, vI, vB, vS, apartW, Option.getD_some, Option.getD_none, Option.map_some, Option.map_none, List.head?_cons, List.head?_nil, List.map_cons, List.map_nil, List.append_nil, List.nil_append, List.cons_append, List.flatMap_cons, List.flatMap_nil, List.drop_zero, List.drop_succ_cons, List.drop_nil, List.take_zero, List.take_succ_cons, List.take_nil, List.length_cons, List.length_nil, List.all_cons, List.all_nil, List.getD_cons_zero, List.getD_cons_succ, List.getD_nil, List.set_cons_zero, List.set_cons_succ, List.replicate_succ, List.replicate_zero, List.nodup_nil, List.mem_cons, List.not_mem_nil, List.contains_cons, List.contains_nil, Nat.reduceEqDiff, Nat.reduceAdd, Nat.reduceSub, Nat.reduceMul, Nat.reduceLT, Nat.reduceLeDiff, Int.reduceEq, Int.reduceNe, Int.reduceLT, Int.reduceLE, reduceCtorEq, ↓reduceIte, true_and, and_true, false_and, and_false, true_or, or_true, false_or, or_false, not_true_eq_false, not_false_eq_true, Bool.not_true, Bool.not_false, Bool.and_true, Bool.true_and, Bool.and_false, Bool.false_and, Bool.or_false, Bool.false_or, decide_true, decide_false, ne_eq, eq_self, forall_const, implies_true, Nat.add_zero, Nat.zero_add, Nat.sub_zero, and_self, Bool.false_eq_true]
    refine ⟨fun _ => ⟨fun h => by omega, fun _ => ?_⟩, fun h => by omega⟩
    refine hpass _ [_] j b L (by omega) rfl hb rfl (fun st => rfl) (fun m hm => ⟨rfl, (m, put1 n m b L, L + 1), ⟨by omega, by simp only; omega, put1_ok hb, ?_⟩, LE.refl _ _⟩)
    subst hm; rfl
  · rintro ⟨i, b', L'⟩ ⟨g1, g2, g3, g4⟩
    simp only at g1 g2 g3 g4
    refine hpass _ [] i b' L' g1 g2 g3 g4 (fun st => rfl) (fun m hm => ⟨rfl, (m, put1 n m b' L', L' + 1), ⟨by simp only; omega, by simp only; omega, put1_ok g3, ?_⟩, by simp only; omega, LE.refl _ _⟩)
    subst hm; exact g4
end Go.Proofs.Bits
