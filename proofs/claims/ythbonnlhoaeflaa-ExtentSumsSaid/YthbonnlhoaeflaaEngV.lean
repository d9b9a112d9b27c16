/-
  The engine, part V: the rules by which simp finds what an operation comes to, one by one.
-/
import Derived.Test.YthbonnlhoaeflaaEngU
set_option linter.unusedVariables false
set_option linter.unusedSimpArgs false
namespace Go.Eng
open Go.RowKit Go.Lib

section
variable {n c i g g' o sz sz' row len off : Nat} {ag : Bool} {cs : List S} {K : U → Prop} {os os' : List (Option Ob)} {k k' kn km : IntKind} {a b x y z : Int} {rows ys : List (List D)}
theorem w_ld_pat {ds : List D} : loadW n ag (.pat ds, os) K = takeW n ag (ds.map .d) K := rfl
theorem w_ld_box : loadW n ag (.ptr i g 0 c, [some ⟨g', .box cs⟩]) K = (g = g' ∧ takeW n ag (cs.drop c) K) := rfl
theorem w_tk_t : takeW n true cs K = (n ≤ cs.length ∧ K ⟨.agg (cs.take n), []⟩) := by cases cs <;> rfl
theorem w_tk_f {s : S} : takeW n false (s :: cs) K = K ⟨s, []⟩ := rfl
theorem w_st_box {q : S × List (Option Ob)} : storeW n (.ptr i g 0 c, [some ⟨g', .box cs⟩]) q K = (g = g' ∧ q.1.cellsOf.length = n ∧ q.1.cellsOf.all S.one = true ∧ c + n ≤ cs.length ∧ K ⟨.any, [(i, ⟨g', .box (setAt cs c q.1.cellsOf)⟩)]⟩) := rfl
theorem w_st_rM {α : Type} [Inhabited α] {f : α → List D} {l : List α} {q : S × List (Option Ob)} : storeW n (.ptr i g row c, [some ⟨g', .arr sz (rM f l)⟩]) q K =
    (g = g' ∧ row < l.length ∧ q.1.cellsOf.all S.one = true ∧ someW (pureCells q.1.cellsOf q.2) fun p => p.2 = [] ∧ p.1.length = n ∧ c + n ≤ sz ∧ K ⟨.any, [(i, ⟨g', .arr sz ((rM f l).set row (setAt (f (l.getD row default)) c p.1))⟩)]⟩) := by
  have key : (row < (rM f l).length ∧ q.1.cellsOf.all S.one = true ∧ match pureCells q.1.cellsOf q.2 with
      | some (xs, []) => xs.length = n ∧ c + n ≤ sz ∧ ∀ r, (rM f l)[row]? = some r → K ⟨.any, [(i, ⟨g', .arr sz ((rM f l).set row (setAt r c xs))⟩)]⟩
      | _ => False) = (row < l.length ∧ q.1.cellsOf.all S.one = true ∧ someW (pureCells q.1.cellsOf q.2) fun p => p.2 = [] ∧ p.1.length = n ∧ c + n ≤ sz ∧ K ⟨.any, [(i, ⟨g', .arr sz ((rM f l).set row (setAt (f (l.getD row default)) c p.1))⟩)]⟩) := by
    rw [rM_len]
    apply propext
    have hrow : ∀ (h1 : row < l.length) (r : List D), (rM f l)[row]? = some r ↔ r = f (l.getD row default) := by
      intro h1 r
      rw [List.getD_eq_getElem?_getD, List.getElem?_eq_getElem h1]
      simp [rM, h1]
      exact eq_comm
    rcases hpc : pureCells q.1.cellsOf q.2 with _ | ⟨xs, _ | ⟨w, ws⟩⟩
    · simp [someW]
    · simp only [someW, true_and]
      constructor
      · rintro ⟨h1, h2, h3, h4, h5⟩
        exact ⟨h1, h2, h3, h4, h5 _ ((hrow h1 _).2 rfl)⟩
      · rintro ⟨h1, h2, h3, h4, h5⟩
        exact ⟨h1, h2, h3, h4, fun r hr => by rw [(hrow h1 r).1 hr]; exact h5⟩
    · simp [someW]
  obtain ⟨q1, q2⟩ := q
  cases row with
  | zero => simp only [storeW]; rw [← key]; rfl
  | succ row => simp only [storeW]; rw [← key]; rfl
theorem w_nil_ptr {r : Nat} {ob : Ob} : nilckW (.ptr i g r c, [some ob]) K = (g = ob.gen ∧ K ⟨.ptr i g r c, []⟩) := rfl
theorem w_nil_pat {ds : List D} : nilckW (.pat ds, os) K = K ⟨.pat ds, []⟩ := rfl
theorem w_fad_ptr {r : Nat} {ob : Ob} : fadW o (.ptr i g r c, [some ob]) K = (g = ob.gen ∧ K ⟨.ptr i g r (c + o), []⟩) := rfl
theorem w_fad_pat {ds : List D} : fadW o (.pat ds, os) K = K ⟨.pat (ds.drop o), []⟩ := rfl
theorem w_fld_t : fldW o n true (.agg cs, os) K = (o + n ≤ cs.length ∧ K ⟨.agg ((cs.drop o).take n), []⟩) := rfl
theorem w_fld_f : fldW o n false (.agg cs, os) K = someW (cs.drop o).head? fun s => K ⟨s, []⟩ := by
  simp only [fldW]
  cases cs.drop o <;> rfl
theorem w_ext : extW n (.tup cs, os) K = someW (cs.drop n).head? fun s => K ⟨s, []⟩ := by
  simp only [extW]
  cases cs.drop n <;> rfl
theorem w_iad_view : iadW sz (.view i g off len, [some ⟨g', .arr sz' rows⟩]) (.d (.v (.int kn x)), os) K = (g = g' ∧ sz' = sz ∧ 0 ≤ x ∧ x < len ∧ K ⟨.ptr i g (off + x.toNat) 0, []⟩) := rfl
theorem w_b0 {N : Nat} {Q : Nat → Nat → Prop} : boundsW N none none Q = Q 0 N := rfl
theorem w_b1 {N : Nat} {Q : Nat → Nat → Prop} : boundsW N (some (.d (.v (.int kn x)), os)) none Q = (0 ≤ x ∧ x ≤ N ∧ Q x.toNat N) := rfl
theorem w_b2 {N : Nat} {Q : Nat → Nat → Prop} : boundsW N none (some (.d (.v (.int kn x)), os)) Q = (0 ≤ x ∧ x ≤ N ∧ Q 0 x.toNat) := rfl
theorem w_b3 {N : Nat} {Q : Nat → Nat → Prop} : boundsW N (some (.d (.v (.int kn x)), os)) (some (.d (.v (.int km y)), os')) Q = (0 ≤ x ∧ x ≤ y ∧ y ≤ N ∧ Q x.toNat y.toNat) := rfl
theorem w_slc_sl {lo hi : Option A} : slcW sz (.d (.sl sz' rows), os) lo hi K = (sz' = sz ∧ boundsW rows.length lo hi fun l u => K ⟨.d (.sl sz ((rows.drop l).take (u - l))), []⟩) := rfl
theorem w_slc_nil {lo hi : Option A} : slcW sz (.d (.v (.slice none 0 0)), os) lo hi K = boundsW 0 lo hi fun _ _ => K ⟨.d (.v (.slice none 0 0)), []⟩ := rfl
theorem w_slc_view {lo hi : Option A} : slcW sz (.view i g off len, [some ⟨g', .arr sz' rows⟩]) lo hi K = (g = g' ∧ sz' = sz ∧ boundsW len lo hi fun l u => K ⟨.view i g (off + l) (u - l), []⟩) := rfl
theorem w_slcs {s : ByteArray} {lo hi : Option A} : slcsW (.d (.v (.string s)), os) lo hi K = boundsW s.size lo hi fun l u => K ⟨.d (.v (.string (s.extract l u))), []⟩ := rfl
theorem w_len_sl : lenW (.d (.sl sz rows), os) K = K ⟨.d (.v (.int .i64 rows.length)), []⟩ := rfl
theorem w_len_nil : lenW (.d (.v (.slice none 0 0)), os) K = K ⟨.d (.v (.int .i64 0)), []⟩ := rfl
theorem w_len_view {ob : Ob} : lenW (.view i g off len, [some ob]) K = (g = ob.gen ∧ K ⟨.d (.v (.int .i64 len)), []⟩) := rfl
theorem w_lenS {s : ByteArray} : lenSW (.d (.v (.string s))) K = K ⟨.d (.v (.int .i64 s.size)), []⟩ := rfl
theorem w_ro_sl : rowsOf (.d (.sl sz rows), os) = some rows := rfl
theorem w_ro_nil : rowsOf (.d (.v (.slice none 0 0)), os) = some [] := rfl
theorem w_ro_view : rowsOf (.view i g off len, [some ⟨g', .arr sz rows⟩]) = if g = g' ∧ off + len ≤ rows.length then some ((rows.drop off).take len) else none := rfl
theorem w_fi_sl : fits sz (.d (.sl sz' rows), os) = (sz' = sz) := rfl
theorem w_fi_nil {v : Value} : fits sz (.d (.v v), os) = True := rfl
theorem w_fi_view : fits sz (.view i g off len, [some ⟨g', .arr sz' rows⟩]) = (sz' = sz) := rfl
theorem w_ap_nil {d b : Nat} : appW d g sz b (.d (.v (.slice none 0 0)), os) (some ys) K = (ys.length * b ≤ 140737488355328 ∧ ys.length ≤ 9223372036854775807 ∧ K ⟨.view d g 0 ys.length, [(d, ⟨g, .arr sz ys⟩)]⟩) := rfl
theorem w_ap_view {d b g0 : Nat} : appW d g sz b (.view i g0 off len, [some ⟨g', .arr sz' rows⟩]) (some ys) K = (g0 = g' ∧ sz' = sz ∧ off + len ≤ rows.length ∧ (len + ys.length) * b ≤ 140737488355328 ∧ len + ys.length ≤ 9223372036854775807 ∧
        K ⟨.view i (g' + 1) 0 (len + ys.length), [(i, ⟨g' + 1, .arr sz ((rows.drop off).take len ++ ys)⟩)]⟩) := rfl
theorem w_bin {op : BinOp} {u v : Value} : binOpW op (.d (.v u)) (.d (.v v)) K = binW op u v fun w => K ⟨.d (.v w), []⟩ := rfl
theorem w_un {op : UnOp} {u : Value} : unOpW op (.d (.v u)) K = unW op u fun w => K ⟨.d (.v w), []⟩ := rfl
theorem w_eqb {p q : Bool} : eqbW ag (.d (.v (.bool p))) (.d (.v (.bool q))) K = K ⟨.d (.v (.bool (if ag then !(p == q) else p == q))), []⟩ := rfl
theorem w_eqp_n : eqpW ag (.d (.v (.pointer none)), os) (.d (.v (.pointer none))) K = K ⟨.d (.v (.bool (!ag))), []⟩ := rfl
theorem w_eqp_p {r : Nat} {ob : Ob} : eqpW ag (.ptr i g r c, [some ob]) (.d (.v (.pointer none))) K = (g = ob.gen ∧ K ⟨.d (.v (.bool ag)), []⟩) := rfl
theorem w_eqp_t {ds : List D} : eqpW ag (.pat ds, os) (.d (.v (.pointer none))) K = K ⟨.d (.v (.bool ag)), []⟩ := rfl
theorem w_eqs {ks : List Nat} {cs' : List S} : eqsW ag ks (.agg cs) (.agg cs') K = someW (eqCells ks cs cs') fun q => K ⟨.d (.v (.bool (if ag then !q else q))), []⟩ := by
  simp only [eqsW]
  cases eqCells ks cs cs' <;> rfl
theorem w_fre {a b : Nat} {f : FloatKind} : fuW .re (.d (.v (.complex f a b))) K = K ⟨.d (.v (.float f a)), []⟩ := rfl
theorem w_fim {a b : Nat} {f : FloatKind} : fuW .im (.d (.v (.complex f a b))) K = K ⟨.d (.v (.float f b)), []⟩ := rfl
theorem w_toF {f : FloatKind} {kn : IntKind} {x : Int} : fuW (.toF f) (.d (.v (.int kn x))) K = K ⟨.d (.v (.float f (f.nearest x))), []⟩ := rfl
theorem w_fcx {a b : Nat} {f : FloatKind} : fcxW (.d (.v (.float f a))) (.d (.v (.float f b))) K = K ⟨.d (.v (.complex f a b)), []⟩ := by simp [fcxW]
theorem w_fToI {f : FloatKind} {b : Nat} : toIntW k (.d (.v (.float f b))) K = (match (f.decode b).toInt .zero with | some n => k.min ≤ n ∧ n ≤ k.max ∧ K ⟨vI k n, []⟩ | none => False) := rfl
def intOfW (k : IntKind) (o : Option Int) (K : U → Prop) : Prop := match o with
  | some n => k.min ≤ n ∧ n ≤ k.max ∧ K ⟨vI k n, []⟩
  | none => False
theorem w_fInt {f : FloatKind} {b : Nat} : toIntW k (.d (.v (.float f b))) K = intOfW k ((f.decode b).toInt .zero) K := rfl
theorem w_ioS {n : Int} : intOfW k (some n) K = (k.min ≤ n ∧ n ≤ k.max ∧ K ⟨vI k n, []⟩) := rfl
theorem intOfW_congr {o o' : Option Int} (h : mark o = o') : intOfW k o K = intOfW k o' K := by simp only [mark_eq] at h; rw [h]
attribute [congr] intOfW_congr
theorem w_toInt : toIntW k (.d (.v (.int kn x))) K = K ⟨.d (.v (.int k (k.wrap x))), []⟩ := rfl
theorem w_ro_sl' {Q : List (List D) → Prop} : rowsW (.d (.sl sz rows), os) Q = Q rows := rfl
theorem w_ro_nil' {Q : List (List D) → Prop} : rowsW (.d (.v (.slice none 0 0)), os) Q = Q [] := rfl
theorem w_ro_view' {Q : List (List D) → Prop} : rowsW (.view i g off len, [some ⟨g', .arr sz rows⟩]) Q = (g = g' ∧ off + len ≤ rows.length ∧ Q ((rows.drop off).take len)) := by
  simp only [rowsW, rowsOf]
  by_cases h : g = g' ∧ off + len ≤ rows.length
  · rw [if_pos h]; simp [someW, h]
  · rw [if_neg h]; simp only [someW]
    apply propext
    constructor
    · exact False.elim
    · rintro ⟨a, b, _⟩; exact h ⟨a, b⟩
theorem w_slc0_sl {d : Nat} {g : Nat} {r : List (List D)} {z : Nat} : slc0W d g sz (.d (.sl z r), os) K = (0 < sz ∧ K ⟨.view d g 0 0, [(d, ⟨g, .arr sz []⟩)]⟩) := rfl
theorem w_slc0_nil {d : Nat} {g : Nat} : slc0W d g sz (.d (.v (.slice none 0 0)), os) K = (0 < sz ∧ K ⟨.view d g 0 0, [(d, ⟨g, .arr sz []⟩)]⟩) := rfl
theorem w_slc0_view {d g0 : Nat} {z : Nat} : slc0W d g sz (.view i g0 off len, [some ⟨g', .arr z rows⟩]) K = (g0 = g' ∧ off + len ≤ rows.length ∧ 0 < sz ∧ K ⟨.view d g 0 0, [(d, ⟨g, .arr sz []⟩)]⟩) := rfl
theorem w_eqn_nil {n : Bool} : eqnW n (.d (.v (.slice none 0 0))) K = K ⟨.d (.v (.bool (!n))), []⟩ := rfl
theorem w_eqn_sn {n : Bool} {z : Nat} {r : List (List D)} : eqnW n (.d (.sn z r)) K = K ⟨.d (.v (.bool n)), []⟩ := rfl
theorem w_ro_sn : rowsOf (.d (.sn sz rows), os) = some rows := rfl
theorem w_ro_sn' {Q : List (List D) → Prop} : rowsW (.d (.sn sz rows), os) Q = Q rows := rfl
theorem w_fi_sn : fits sz (.d (.sn sz' rows), os) = (sz' = sz) := rfl
theorem w_mark : markW (.view i g off len, [some ⟨g', .arr sz rows⟩]) K = (g = g' ∧ off + len ≤ rows.length ∧ 0 < len ∧ K ⟨.view i g off len, [(i, ⟨g', .arr sz rows⟩)]⟩) := rfl
theorem w_toStr {q : A} : toStrW q K = rowsW q fun rows => fits 1 q ∧ (∀ r ∈ rows, IsByte r) ∧ K ⟨.d (.v (.string (strD rows))), []⟩ := by
  simp only [toStrW, rowsW]
  cases rowsOf q <;> rfl
theorem byte_rK {l : List Int} : (∀ r ∈ rK .u8 l, IsByte r) = True := by
  apply propext
  refine ⟨fun _ => trivial, fun _ r hr => ?_⟩
  obtain ⟨n, _, rfl⟩ := List.mem_map.1 hr
  exact ⟨n, rfl⟩
/-- A text of these bytes. -/
def strI (l : List Int) : ByteArray := ⟨(l.map fun n => UInt8.ofNat n.toNat).toArray⟩
theorem str_rK {l : List Int} : strD (rK .u8 l) = strI l := by
  simp only [strD, rK, strI, List.map_map]
  rfl
theorem w_mksl {d b : Nat} {zero : List Value} : mkslW d g sz b zero (.d (.v (.int kn x))) (.d (.v (.int km y))) K = (0 ≤ x ∧ x ≤ y ∧ (b : Int) * y ≤ 140737488355328 ∧ y ≤ 9223372036854775807 ∧ K ⟨.view d g 0 x.toNat, [(d, ⟨g, .arr sz (List.replicate x.toNat (zero.map .v))⟩)]⟩) := rfl
theorem w_mm : mmW ag (.d (.v (.int k x))) (.d (.v (.int k y))) K = K ⟨.d (.v (.int k (if ag then max x y else min x y))), []⟩ := by simp [mmW, vI]
theorem w_toBytes {d : Nat} {s : ByteArray} : toBytesW d g (.d (.v (.string s))) K = (s.size ≤ 140737488355328 ∧ K ⟨.view d g 0 s.size, [(d, ⟨g, .arr 1 (rK .u8 (byt s))⟩)]⟩) := by rw [← bytesD_rK]; rfl
theorem w_appStr {d : Nat} {s : ByteArray} {q : A} : appStrW d g q (.d (.v (.string s))) K = appW d g 1 1 q (some (rK .u8 (byt s))) K := by rw [← bytesD_rK]; rfl
theorem w_some {α : Type} {v : α} {Q : α → Prop} : someW (some v) Q = Q v := rfl
theorem w_none {α : Type} {Q : α → Prop} : someW none Q = False := rfl
end

section
variable {k kn : IntKind} {a b : Int} {s t : ByteArray} {K : Value → Prop}
theorem b_add : binW .add (.int k a) (.int k b) K = K (.int k (k.wrap (a + b))) := by simp [binW]
theorem b_sub : binW .sub (.int k a) (.int k b) K = K (.int k (k.wrap (a - b))) := by simp [binW]
theorem b_mul : binW .mul (.int k a) (.int k b) K = K (.int k (k.wrap (a * b))) := by simp [binW]
theorem b_quo : binW .quo (.int k a) (.int k b) K = (b ≠ 0 ∧ K (.int k (k.wrap (a.tdiv b)))) := by simp [binW]
theorem b_rem : binW .rem (.int k a) (.int k b) K = (b ≠ 0 ∧ K (.int k (a.tmod b))) := by simp [binW]
theorem b_and : binW .and (.int k a) (.int k b) K = K (.int k (k.wrap (BitVec.ofInt k.bits a &&& BitVec.ofInt k.bits b).toNat)) := by simp [binW]
theorem b_or : binW .or (.int k a) (.int k b) K = K (.int k (k.wrap (BitVec.ofInt k.bits a ||| BitVec.ofInt k.bits b).toNat)) := by simp [binW]
theorem b_xor : binW .xor (.int k a) (.int k b) K = K (.int k (k.wrap (BitVec.ofInt k.bits a ^^^ BitVec.ofInt k.bits b).toNat)) := by simp [binW]
theorem b_andNot : binW .andNot (.int k a) (.int k b) K = K (.int k (k.wrap (BitVec.ofInt k.bits a &&& ~~~ BitVec.ofInt k.bits b).toNat)) := by simp [binW]
theorem b_shl : binW .shl (.int k a) (.int kn b) K = (0 ≤ b ∧ K (.int k (k.wrap (a * 2 ^ (min b.toNat k.bits))))) := by simp [binW]
theorem b_shr : binW .shr (.int k a) (.int kn b) K = (0 ≤ b ∧ K (.int k (a.fdiv (2 ^ (min b.toNat k.bits))))) := by simp [binW]
theorem b_eql : binW .eql (.int k a) (.int k b) K = K (.bool (decide (a = b))) := by simp only [binW, true_and]; rfl
theorem b_neq : binW .neq (.int k a) (.int k b) K = K (.bool (decide (¬ a = b))) := by simp only [binW, true_and, int_bne]
theorem b_lss : binW .lss (.int k a) (.int k b) K = K (.bool (decide (a < b))) := by simp [binW]
theorem b_leq : binW .leq (.int k a) (.int k b) K = K (.bool (decide (a ≤ b))) := by simp [binW]
theorem b_gtr : binW .gtr (.int k a) (.int k b) K = K (.bool (decide (b < a))) := by simp [binW]
theorem b_geq : binW .geq (.int k a) (.int k b) K = K (.bool (decide (b ≤ a))) := by simp [binW]
theorem b_feq {a b : Nat} {f : FloatKind} : binW .eql (.float f a) (.float f b) K = K (.bool (f.format.order a b == some .eq)) := by simp only [binW, true_and]
theorem b_fne {a b : Nat} {f : FloatKind} : binW .neq (.float f a) (.float f b) K = K (.bool (f.format.order a b != some .eq)) := by simp only [binW, true_and]
theorem b_flt {a b : Nat} {f : FloatKind} : binW .lss (.float f a) (.float f b) K = K (.bool (f.format.order a b == some .lt)) := by simp only [binW, true_and]
theorem b_fgt {a b : Nat} {f : FloatKind} : binW .gtr (.float f a) (.float f b) K = K (.bool (f.format.order a b == some .gt)) := by simp only [binW, true_and]
theorem b_ceq {a b c d : Nat} {f : FloatKind} : binW .eql (.complex f a b) (.complex f c d) K = K (.bool (f.format.order a c == some .eq && f.format.order b d == some .eq)) := by simp only [binW, true_and]
theorem o_eq (a b : Nat) : (some (compare a b) == some Ordering.eq) = decide (a = b) := by
  rw [Bool.eq_iff_iff]; simp [Nat.compare_eq_eq]
theorem o_ne (a b : Nat) : (some (compare a b) != some Ordering.eq) = decide (¬ a = b) := by
  rw [Bool.eq_iff_iff]; simp [Nat.compare_eq_eq]
theorem o_lt (a b : Nat) : (some (compare a b) == some Ordering.lt) = decide (a < b) := by
  rw [Bool.eq_iff_iff]; simp [Nat.compare_eq_lt]
theorem o_gt (a b : Nat) : (some (compare a b) == some Ordering.gt) = decide (b < a) := by
  rw [Bool.eq_iff_iff]; simp [Nat.compare_eq_gt]
theorem b_sadd : binW .add (.string s) (.string t) K = (((s.size + t.size : Nat) : Int) ≤ 9223372036854775807 ∧ K (.string (s ++ t))) := rfl
/-- Texts in order. -/
def sLt (s t : ByteArray) : Bool := Op.bytesLess s.toList t.toList
theorem str_eq_iff (s t : ByteArray) : (s.toList == t.toList) = decide (s = t) := by
  rw [toList_data, toList_data]
  by_cases h : s = t
  · subst h; simp
  · have h2 : ¬ s.data = t.data := fun e => h (by cases s; cases t; simp_all)
    simp [h, h2]
theorem b_seq : binW .eql (.string s) (.string t) K = K (.bool (decide (s = t))) := by rw [← str_eq_iff]; rfl
theorem b_sne : binW .neq (.string s) (.string t) K = K (.bool (decide (¬ s = t))) := by
  have : (!(s.toList == t.toList)) = decide (¬ s = t) := by rw [str_eq_iff]; simp
  rw [← this]; rfl
theorem b_slt : binW .lss (.string s) (.string t) K = K (.bool (decide (sLt s t = true))) := by
  have : Op.bytesLess s.toList t.toList = decide (sLt s t = true) := by cases h : Op.bytesLess s.toList t.toList <;> simp [sLt, h]
  simp only [binW]; rw [← this]
theorem b_sle : binW .leq (.string s) (.string t) K = K (.bool (decide (sLt s t = true ∨ s = t))) := by
  have : (Op.bytesLess s.toList t.toList || s.toList == t.toList) = decide (sLt s t = true ∨ s = t) := by cases h : Op.bytesLess s.toList t.toList <;> simp [sLt, h, str_eq_iff]
  simp only [binW, this]
theorem b_sgt : binW .gtr (.string s) (.string t) K = K (.bool (decide (¬ (sLt s t = true ∨ s = t)))) := by
  have : (Op.bytesLess s.toList t.toList || s.toList == t.toList) = decide (sLt s t = true ∨ s = t) := by cases h : Op.bytesLess s.toList t.toList <;> simp [sLt, h, str_eq_iff]
  simp only [binW, this]
  rw [not_decide']
theorem b_sge : binW .geq (.string s) (.string t) K = K (.bool (decide (¬ sLt s t = true))) := by
  simp only [binW, show Op.bytesLess s.toList t.toList = sLt s t from rfl]
  rw [← not_decide']; simp
theorem u_neg : unW .neg (.int k a) K = K (.int k (k.wrap (0 - a))) := rfl
theorem u_xor : unW .xor (.int k a) K = K (.int k (k.wrap (BitVec.ofInt k.bits (if k.signed then -1 else k.max) ^^^ BitVec.ofInt k.bits a).toNat)) := rfl
theorem u_not {p : Bool} : unW .not (.bool p) K = K (.bool (!p)) := rfl
end

/-! what is forgotten -/
def clV (o : Option Ob) (inp kb : Bool) (g : Nat) (a b : S) : S := match o with
  | some ob => if inp then a else if g = ob.gen ∧ (ob.body.live && kb) = true then b else .any
  | none => .any
def conH (i : Nat) (o : Option Ob) (r : List (Nat × Ob)) : List (Nat × Ob) := match o with
  | some ob => (i, ob) :: r
  | none => hdel i r
section
variable {p : List Nat} {kp : Nat → Bool} {h : Nat → Option Ob} {i g g' o l r c sz : Nat} {a b : S} {cs : List S} {d : D} {ds : List D} {rows : List (List D)}
theorem c_2t : clean2 p kp h (.tup cs) = .tup (cs.map (clean1 p kp h)) := rfl
theorem c_2d : clean2 p kp h (.d d) = .d d := rfl
theorem c_2p : clean2 p kp h (.pat ds) = .pat ds := rfl
theorem c_2c {f : Nat} : clean2 p kp h (.clo f cs) = .clo f (cs.map (clean0 p kp h)) := rfl
theorem c_1c {f : Nat} : clean1 p kp h (.clo f cs) = .clo f (cs.map (clean0 p kp h)) := rfl
theorem c_2a : clean2 p kp h (.agg cs) = .agg (cs.map (clean0 p kp h)) := rfl
theorem c_2n : clean2 p kp h .any = .any := rfl
theorem c_2v : clean2 p kp h (.view i g o l) = clV (h i) (decide (i ∈ p)) (kp i) g (.view i g o l) (.view i 0 o l) := by
  simp only [clean2, clean1, clean0, clV]
  cases h i <;> simp
theorem c_2q : clean2 p kp h (.ptr i g r c) = clV (h i) (decide (i ∈ p)) (kp i) g (.ptr i g r c) (.ptr i 0 r c) := by
  simp only [clean2, clean1, clean0, clV]
  cases h i <;> simp
theorem c_1d : clean1 p kp h (.d d) = .d d := rfl
theorem c_1p : clean1 p kp h (.pat ds) = .pat ds := rfl
theorem c_1a : clean1 p kp h (.agg cs) = .agg (cs.map (clean0 p kp h)) := rfl
theorem c_1n : clean1 p kp h .any = .any := rfl
theorem c_1v : clean1 p kp h (.view i g o l) = clV (h i) (decide (i ∈ p)) (kp i) g (.view i g o l) (.view i 0 o l) := c_2v
theorem c_1q : clean1 p kp h (.ptr i g r c) = clV (h i) (decide (i ∈ p)) (kp i) g (.ptr i g r c) (.ptr i 0 r c) := c_2q
theorem c_0d : clean0 p kp h (.d d) = .d d := rfl
theorem c_0p : clean0 p kp h (.pat ds) = .pat ds := rfl
theorem c_0n : clean0 p kp h .any = .any := rfl
theorem c_0v : clean0 p kp h (.view i g o l) = clV (h i) (decide (i ∈ p)) (kp i) g (.view i g o l) (.view i 0 o l) := c_2v
theorem c_0q : clean0 p kp h (.ptr i g r c) = clV (h i) (decide (i ∈ p)) (kp i) g (.ptr i g r c) (.ptr i 0 r c) := c_2q
theorem cv_n {q kb : Bool} : clV none q kb g a b = .any := rfl
theorem cv_t {kb : Bool} {ob : Ob} : clV (some ob) true kb g a b = a := rfl
theorem cv_a : clV (some ⟨g', .arr sz rows⟩) false true g a b = if g = g' then b else .any := by simp [clV, Body.live]
theorem cv_b : clV (some ⟨g', .box cs⟩) false true g a b = if g = g' then b else .any := by simp [clV, Body.live]
theorem cv_d {kb : Bool} : clV (some ⟨g', .dead⟩) false kb g a b = .any := by simp [clV, Body.live]
theorem cv_f {ob : Ob} : clV (some ob) false false g a b = .any := by simp [clV]
def nO (inp kb : Bool) (g : Nat) (B B' : Body) : Option Ob := if inp then some ⟨g, B'⟩ else if (B.live && kb) = true then some ⟨0, B'⟩ else none
theorem n_nil : normH p kp h [] = [] := rfl
theorem n_cons {B : Body} {t : List (Nat × Ob)} : normH p kp h ((i, ⟨g, B⟩) :: t) = conH i (nO (decide (i ∈ p)) (kp i) g B (cleanB p kp h B)) (normH p kp h t) := by
  simp only [normH, conH, nO, normO, decide_eq_true_eq]
  split <;> rename_i e <;> rw [e]
theorem no_t {kb : Bool} {B B' : Body} : nO true kb g B B' = some ⟨g, B'⟩ := rfl
theorem no_a {B' : Body} : nO false true g (.arr sz rows) B' = some ⟨0, B'⟩ := rfl
theorem no_b {B' : Body} : nO false true g (.box cs) B' = some ⟨0, B'⟩ := rfl
theorem no_d {kb : Bool} {B' : Body} : nO false kb g .dead B' = none := rfl
theorem no_f {B B' : Body} : nO false false g B B' = none := by simp [nO]
theorem cb_a : cleanB p kp h (.arr sz rows) = .arr sz rows := rfl
theorem cb_b : cleanB p kp h (.box cs) = .box (cs.map (clean0 p kp h)) := rfl
theorem cb_d : cleanB p kp h .dead = .dead := rfl
theorem kp_eq {L : List Nat} : kpOf L i = (decide (1000 ≤ i) || L.contains i) := rfl
theorem r2_t : S.refs2 (.tup cs) = cs.flatMap S.refs := rfl
theorem r2_d : S.refs2 (.d d) = [] := rfl
theorem r2_p : S.refs2 (.pat ds) = [] := rfl
theorem r2_w : S.refs2 (.view i g o l) = [i] := rfl
theorem r2_q : S.refs2 (.ptr i g r c) = [i] := rfl
theorem r2_c {f : Nat} : S.refs2 (.clo f cs) = cs.flatMap cellRefs := rfl
theorem r2_a : S.refs2 (.agg cs) = cs.flatMap cellRefs := rfl
theorem r2_n : S.refs2 .any = [] := rfl
theorem bx_a : boxRefs (.arr sz rows) = [] := rfl
theorem bx_b : boxRefs (.box cs) = cs.flatMap cellRefs := rfl
theorem bx_d : boxRefs .dead = [] := rfl
theorem co_s {ob : Ob} {t : List (Nat × Ob)} : conH i (some ob) t = (i, ob) :: t := rfl
theorem co_n {t : List (Nat × Ob)} : conH i none t = hdel i t := rfl
theorem hd_nil : hdel i [] = [] := rfl
theorem hd_cons {ob : Ob} {j : Nat} {t : List (Nat × Ob)} : hdel i ((j, ob) :: t) = if j = i then hdel i t else (j, ob) :: hdel i t := rfl
theorem on_v {v : Value} : S.one (.d (.v v)) = v.oneCell' := rfl
theorem on_s : S.one (.d (.sl sz rows)) = true := rfl
theorem on_p : S.one (.pat ds) = true := rfl
theorem on_w : S.one (.view i g o l) = true := rfl
theorem on_q : S.one (.ptr i g r c) = true := rfl
theorem ce_d : S.cellsOf (.d d) = [.d d] := rfl
theorem ce_p : S.cellsOf (.pat ds) = [.pat ds] := rfl
theorem ce_w : S.cellsOf (.view i g o l) = [.view i g o l] := rfl
theorem ce_q : S.cellsOf (.ptr i g r c) = [.ptr i g r c] := rfl
theorem ce_a : S.cellsOf (.agg cs) = cs := rfl
theorem re_d : S.refs (.d d) = [] := rfl
theorem re_p : S.refs (.pat ds) = [] := rfl
theorem re_w : S.refs (.view i g o l) = [i] := rfl
theorem re_q : S.refs (.ptr i g r c) = [i] := rfl
theorem re_c {f : Nat} : S.refs (.clo f cs) = cs.flatMap cellRefs := rfl
theorem re_a : S.refs (.agg cs) = cs.flatMap cellRefs := rfl
theorem re_t : S.refs (.tup cs) = [] := rfl
theorem re_n : S.refs .any = [] := rfl
theorem cr_d : cellRefs (.d d) = [] := rfl
theorem cr_p : cellRefs (.pat ds) = [] := rfl
theorem cr_w : cellRefs (.view i g o l) = [i] := rfl
theorem cr_q : cellRefs (.ptr i g r c) = [i] := rfl
theorem cr_n : cellRefs .any = [] := rfl
theorem pc_nil {os : List (Option Ob)} : pureCells [] os = some ([], []) := rfl
theorem pc_d {os : List (Option Ob)} : pureCells (.d d :: cs) os = (pureCells cs os).map fun q => (d :: q.1, q.2) := by
  simp only [pureCells, pureCell]
  cases pureCells cs os <;> simp
theorem pc_w {os : List (Option Ob)} : pureCells (.view i g o l :: cs) (some ⟨g', .arr sz rows⟩ :: os) = if g = g' ∧ o + l ≤ rows.length then (pureCells cs os).map fun q => (.sl sz ((rows.drop o).take l) :: q.1, (i, ⟨g', .dead⟩) :: q.2) else none := by
  simp only [pureCells, pureCell]
  by_cases e : g = g' ∧ o + l ≤ rows.length
  · simp only [if_pos e]; cases pureCells cs os <;> simp
  · simp only [if_neg e]
end
end Go.Eng
