/-
  The engine, part X: a promise from a told body; what is returned.
-/
import Derived.Test.YthbonnlhoaeflaaEngV
set_option linter.unusedVariables false
set_option linter.unusedSimpArgs false
namespace Go.Eng
open Go.RowKit Go.Lib

def slvM (o : Option Ob) (g sz off len : Nat) (rows : List (List D)) : Prop := match o with
  | some ⟨g', .arr sz' rs⟩ => g = g' ∧ sz = sz' ∧ off + len ≤ rs.length ∧ rows = (rs.drop off).take len
  | _ => False
def curM (o : Option Ob) (g : Nat) : Prop := match o with
  | some ob => ob.gen = g
  | none => False
section
variable {h : Nat → Option Ob} {σ : Nat → Option Nat} {i id g g' off len row cell sz sz' : Nat} {rows rs : List (List D)} {x y : D} {ds ds' : List D} {a : S}
theorem m_slv : arg0 h σ (.d (.sl sz rows)) (.view id g off len) = slvM (h id) g sz off len rows := by
  apply propext
  simp only [arg0, slvM]
  constructor
  · rintro ⟨g', sz', rs, h1, h2⟩; rw [h1]; exact h2
  · intro hm
    split at hm
    · rename_i g' sz' rs hh; exact ⟨g', sz', rs, hh, hm⟩
    · exact hm.elim
theorem m_slv1 : slvM (some ⟨g', .arr sz' rs⟩) g sz off len rows = (g = g' ∧ sz = sz' ∧ off + len ≤ rs.length ∧ rows = (rs.drop off).take len) := rfl
theorem m_nil : arg0 h σ (.d (.sl sz rows)) (.d (.v (.slice none 0 0))) = (rows = []) := rfl
theorem m_dd {v : Value} : arg0 h σ (.d (.v v)) (.d y) = (D.v v = y) := rfl
theorem m_ss : arg0 h σ (.d (.sl sz rows)) (.d (.sl sz' rs)) = (D.sl sz rows = D.sl sz' rs) := rfl
theorem m_cur : cur h id g = curM (h id) g := by
  apply propext
  simp only [cur, curM]
  constructor
  · rintro ⟨ob, h1, h2⟩; rw [h1]; exact h2
  · intro hm
    split at hm
    · rename_i ob hh; exact ⟨ob, hh, hm⟩
    · exact hm.elim
theorem m_cur1 {ob : Ob} : curM (some ob) g = (ob.gen = g) := rfl
theorem m_view {o' l' : Nat} : arg0 h σ (.view i 0 off len) (.view id g o' l') = (σ i = some id ∧ off = o' ∧ len = l' ∧ curM (h id) g) := by rw [← m_cur]; rfl
theorem m_ptr {r' c' : Nat} : arg0 h σ (.ptr i 0 row cell) (.ptr id g r' c') = (σ i = some id ∧ row = r' ∧ cell = c' ∧ curM (h id) g) := by rw [← m_cur]; rfl
theorem m_pat : arg0 h σ (.pat ds) (.pat ds') = (ds = ds') := rfl
theorem m_any : arg0 h σ .any a = True := by cases a <;> rfl
end

theorem told_spec {P : Program} (hm : P.follows .mixedOrders = true) {f N : Nat} {fn : Func} (hf : P.funcs[f]? = some fn) {ts : List Nat} (hr : resTmps fn = some ts) {keep : Nat → Option Kp} {n : Nat} {l : LC}
    (ht : fn.body.bind (trC P N keep n) = some l) (hN : fn.ntmps = N) {pins : List Nat} {hA : List (Nat × Ob)} {args : List S} {hB : List (Nat × Ob)} {res : S} (hl : args.length ≤ N) (hpA : pins.all (fun i => (keysOf hA).contains i) = true)
    (hv : vc P pins l ⟨initS args, hA⟩ fun e st => (e = .normal ∨ e = .ret) ∧ RetOk ts st pins hB res) : Spec P f pins hA args hB res := by
  subst hN
  cases hb : fn.body with
  | none => rw [hb] at ht; cases ht
  | some c =>
    rw [hb] at ht
    exact spec_of_vc hm hf hb hr keep ht hl (fun i hi => hget_key.2 (List.contains_iff_mem.1 (List.all_eq_true.1 hpA i hi))) hv

theorem told_specC {P : Program} (hm : P.follows .mixedOrders = true) {f N : Nat} {fn : Func} (hf : P.funcs[f]? = some fn) {c0 n0 : Nat} {ag : Bool} (hr : resCell P fn = some (c0, n0, ag)) {keep : Nat → Option Kp} {n : Nat} {l : LC}
    (ht : fn.body.bind (trC P N keep n) = some l) (hN : fn.ntmps = N) {pins : List Nat} {hA : List (Nat × Ob)} {args : List S} {hB : List (Nat × Ob)} {res : S} (hl : args.length ≤ N) (hpA : pins.all (fun i => (keysOf hA).contains i) = true)
    (hv : vc P pins l ⟨initS args, hA⟩ fun e st => (e = .normal ∨ e = .ret) ∧ RetCell c0 n0 ag st pins hB res) : Spec P f pins hA args hB res := by
  subst hN
  cases hb : fn.body with
  | none => rw [hb] at ht; cases ht
  | some c =>
    rw [hb] at ht
    exact spec_of_vcC hm hf hb hr keep ht hl (fun i hi => hget_key.2 (List.contains_iff_mem.1 (List.all_eq_true.1 hpA i hi))) hv

/-- What is returned, told by names. -/
theorem RetOk.of {ts : List Nat} {st : St} {pins : List Nat} {hB : List (Nat × Ob)} {res : S} (l : List (Nat × Nat)) (L : List Nat)
    (h1 : args1 (hget st.h) (only (sg l) (hget hB)) (resS res) (ts.map (get st.s))) (h2 : rowsM (hget st.h) (sg l) (only (sg l) (hget hB)) L hB) (h3 : injB (keysOf hB) l = true) (h4 : ∀ id ∈ lents1 (resS res) (ts.map (get st.s)), id ∈ L) (h5 : apartB (keysOf hB) l L = true)
    (h6 : pins.all (fun i => !(keysOf hB).contains i || (sg l i == some i && (match hget st.h i with | some ob => ob.gen == 0 | none => false))) = true)
    (h7 : if ts.length = 1 then resS res = [res] else (match res with | .tup _ => True | _ => False)) : RetOk ts st pins hB res := by
  refine ⟨⟨sg l, L, Match.of h1 h2 h3 h4 h5, fun i hi hn => ?_⟩, fun h => ?_, fun h => ?_⟩
  · have := List.all_eq_true.1 h6 i hi
    have hk := hget_key.1 hn
    rw [← List.contains_iff_mem] at hk
    rw [hk] at this
    simp only [Bool.not_true, Bool.false_or, Bool.and_eq_true, beq_iff_eq] at this
    refine ⟨this.1, ?_⟩
    cases ho : hget st.h i with
    | none => rw [ho] at this; cases this.2
    | some ob => rw [ho] at this; exact ⟨ob, rfl, by simpa using this.2⟩
  · rw [if_pos h] at h7
    exact ⟨res, h7, rfl⟩
  · rw [if_neg h] at h7
    cases res <;> first | exact h7.elim | exact ⟨_, rfl⟩

/-- .. and what is passed on in a loop. -/
theorem LE.of {pins : List Nat} {st st' : St} (l : List (Nat × Nat)) (L : List Nat)
    (h1 : args1 (hget st.h) (only (sg l) (hget st'.h)) (st'.s.map (·.2)) (st'.s.map fun p => get st.s p.1)) (h2 : rowsM (hget st.h) (sg l) (only (sg l) (hget st'.h)) L st'.h) (h3 : injB (keysOf st'.h) l = true)
    (h4 : ∀ id ∈ lents1 (st'.s.map (·.2)) (st'.s.map fun p => get st.s p.1), id ∈ L) (h5 : apartB (keysOf st'.h) l L = true)
    (h6 : pins.all (fun i => (keysOf st'.h).contains i && (sg l i == some i && (match hget st.h i with | some ob => ob.gen == 0 | none => false))) = true) : LE pins st st' := by
  refine LE_match (sg l) L (Match.of h1 h2 h3 h4 h5) (fun i hi => ?_)
  have := List.all_eq_true.1 h6 i hi
  simp only [Bool.and_eq_true, beq_iff_eq, List.contains_iff_mem] at this
  refine ⟨hget_key.2 this.1, this.2.1, ?_⟩
  cases ho : hget st.h i with
  | none => rw [ho] at this; cases this.2.2
  | some ob => rw [ho] at this; exact ⟨ob, rfl, by simpa using this.2.2⟩
end Go.Eng
