/-
  The engine, part D: what the machine's operations do is what part C says (reads, numbers, addresses).
-/
import Derived.Test.YthbonnlhoaeflaaEngC
import Derived.Laws.StructEq
import Derived.Laws.Slices
import Derived.Laws.BytesString
import Derived.Laws.BytesArg
import Derived.Laws.MakeOwn
set_option linter.unusedVariables false
set_option linter.unusedSimpArgs false
namespace Go.Eng
open Go.RowKit

def hwr (h : Nat → Option Ob) (wr : List (Nat × Ob)) : Nat → Option Ob := wr.foldl (fun h p => up h p.1 (some p.2)) h
@[simp] theorem hwr_nil (h : Nat → Option Ob) : hwr h [] = h := rfl
@[simp] theorem hwr_cons (h : Nat → Option Ob) (p : Nat × Ob) (r : List (Nat × Ob)) : hwr h (p :: r) = hwr (up h p.1 (some p.2)) r := rfl
theorem hwr_append (h : Nat → Option Ob) (a b : List (Nat × Ob)) : hwr h (a ++ b) = hwr (hwr h a) b := by simp [hwr, List.foldl_append]

def trA (N : Nat) : Operand → Option LA
  | .tmp t => if t < N then some (.t t) else none
  | .const v => if v.oneCell' = true then some (.c v) else none
  | .func f => some (.f f)
  | .global _ => none

section
variable {Γ : Ctx} {s : Nat → S} {h : Nat → Option Ob} {a : Act} {w : World} {ok : Nat → Prop} {lv : Nat → Option Reg}

theorem Rel.eval (R : Rel Γ s h a w ok lv) {x : Operand} {y : LA} (hx : trA Γ.N x = some y) : RepS w ok lv (evalA s y) (a.eval x) := by
  cases x with
  | tmp t =>
    simp only [trA] at hx
    split at hx
    · rename_i hlt
      cases hx
      have hs : t < a.tmps.size := by rw [R.tm]; exact hlt
      have := R.sl t a.tmps[t] (by simp [hs])
      simpa [evalA, Act.eval, hs] using this
    · cases hx
  | const v =>
    simp only [trA] at hx
    split at hx
    · cases hx; exact .d _ _ (.v v)
    · cases hx
  | func f => cases hx; exact .d _ _ (.v _)
  | global g => cases hx

/-- What a piece of the machine does is what 'u' says. -/
def Does (Γ : Ctx) (s : Nat → S) (h : Nat → Option Ob) (a : Act) (w : World) (m : Sem Value) (u : U) : Prop :=
  ∃ v w' ok' lv', m.run Γ.P w = .ok v w' ∧ Rel Γ s (hwr h u.wr) a w' ok' lv' ∧ RepS w' ok' lv' u.val v

theorem Does.pure (R : Rel Γ s h a w ok lv) {m : Sem Value} {x : S} {v : Value} (hm : m.run Γ.P w = .ok v w) (hx : RepS w ok lv x v) : Does Γ s h a w m ⟨x, []⟩ :=
  ⟨v, w, ok, lv, hm, R, hx⟩

theorem RepS.dv {x v : Value} (h : RepS w ok lv (.d (.v x)) v) : v = x := by cases h with | d _ _ h => cases h; rfl

theorem bin_does (R : Rel Γ s h a w ok lv) {op : BinOp} {t : TypeId} {x y : Operand} {xv yv : Value} {xs ys : S} (hx : RepS w ok lv xs xv) (hy : RepS w ok lv ys yv) {u : U}
    (hW : binOpW op xs ys (· = u)) : Does Γ s h a w (do eqGuard op t x y xv yv; Go.binOp op t xv yv) u := by
  unfold binOpW at hW
  split at hW
  · rename_i p q
    have e1 := hx.dv
    have e2 := hy.dv
    subst e1 e2
    unfold binW at hW
    split at hW
    all_goals first
      | exact hW.elim
      | (obtain ⟨rfl, rfl⟩ : _ = _ ∧ _ = u := hW
         refine Does.pure R ?_ (.d _ _ (.v _))
         simp [eqGuard, Go.binOp, Op.intArith, Op.intBits, Op.intCmp, Op.floatCmp, Op.complexOp, Op.Complex.cmp, asBool]
         done)
      | (obtain ⟨rfl, hz, rfl⟩ : _ = _ ∧ _ ≠ 0 ∧ _ = u := hW
         refine Does.pure R ?_ (.d _ _ (.v _))
         simp [eqGuard, Go.binOp, Op.intDiv, hz]
         done)
      | (obtain ⟨hz, rfl⟩ : (0 : Int) ≤ _ ∧ _ = u := hW
         refine Does.pure R ?_ (.d _ _ (.v _))
         have h0' := Int.not_lt.2 hz
         simp [eqGuard, Go.binOp, Op.shift, h0']
         done)
      | (subst hW
         refine Does.pure R ?_ (.d _ _ (.v _))
         simp [eqGuard, Go.binOp, Op.stringOp]
         done)
      | (rename_i p q
         obtain ⟨hz, rfl⟩ := hW
         refine Does.pure R ?_ (.d _ _ (.v _))
         simp [eqGuard, Go.binOp, Op.stringOp]
         omega)
  · exact hW.elim

theorem un_does (R : Rel Γ s h a w ok lv) {op : UnOp} {xv : Value} {xs : S} (hx : RepS w ok lv xs xv) {u : U} (hW : unOpW op xs (· = u)) : Does Γ s h a w (Op.unary op xv) u := by
  unfold unOpW at hW
  split at hW
  · have e1 := hx.dv
    subst e1
    unfold unW at hW
    split at hW
    all_goals first
      | exact hW.elim
      | (subst hW; exact Does.pure R (by simp [Op.unary, Op.intArith, Op.intBits]) (.d _ _ (.v _)))
  · exact hW.elim

theorem eqb_does (R : Rel Γ s h a w ok lv) {op : BinOp} {neg : Bool} {t : TypeId} {x y : Operand} {xv yv : Value} {xs ys : S} (ht : Γ.P.underlying t = some .bool)
    (hop : op = if neg then .neq else .eql) (hx : RepS w ok lv xs xv) (hy : RepS w ok lv ys yv) {u : U}
    (hW : eqbW neg xs ys (· = u)) : Does Γ s h a w (do eqGuard op t x y xv yv; Go.binOp op t xv yv) u := by
  unfold eqbW at hW
  split at hW
  · rename_i p q
    have e1 := hx.dv
    have e2 := hy.dv
    subst e1 e2 hW
    have he : (Op.equal t (.bool p) (.bool q)).run Γ.P w = .ok (p == q) w := run_equalIn_bool' w 9999 t p q ht
    cases neg
    · simp only [Bool.false_eq_true, if_false] at hop; subst hop
      exact Does.pure R (v := .bool (p == q)) (by simp [eqGuard, Go.binOp, he]) (.d _ _ (.v _))
    · simp only [if_true] at hop; subst hop
      exact Does.pure R (v := .bool !(p == q)) (by simp [eqGuard, Go.binOp, he]) (.d _ _ (.v _))
  · exact hW.elim

theorem eqp_does (R : Rel Γ s h a w ok lv) {op : BinOp} {neg : Bool} {t e : TypeId} {x y : Operand} {xv yv : Value} {xs ys : S} (ht : Γ.P.underlying t = some (.pointer e))
    (hop : op = if neg then .neq else .eql) (hx : RepS w ok lv xs xv) (hy : RepS w ok lv ys yv) {u : U}
    (hW : eqpW neg (att h xs) ys (· = u)) : Does Γ s h a w (do eqGuard op t x y xv yv; Go.binOp op t xv yv) u := by
  have key : ∀ (p : Option Addr), (Op.equal t (.pointer p) (.pointer none)).run Γ.P w = .ok p.isNone w := by
    intro p
    have hd : ∀ d, (Op.equalIn (d + 1) t (.pointer p) (.pointer none)).run Γ.P w = .ok p.isNone w := by
      intro d
      cases p <;> simp [Op.equalIn, run_underlying ht]
    exact hd 9999
  have fin : ∀ (p : Option Addr), xv = .pointer p → yv = .pointer none → u = ⟨vB (if neg then !p.isNone else p.isNone), []⟩ → Does Γ s h a w (do eqGuard op t x y xv yv; Go.binOp op t xv yv) u := by
    intro p e1 e2 e3
    subst e1 e2 e3
    cases neg
    · simp only [Bool.false_eq_true, if_false] at hop; subst hop
      exact Does.pure R (v := .bool p.isNone) (by simp [eqGuard, Go.binOp, key]) (.d _ _ (.v _))
    · simp only [if_true] at hop; subst hop
      exact Does.pure R (v := .bool !p.isNone) (by simp [eqGuard, Go.binOp, key]) (.d _ _ (.v _))
  unfold eqpW at hW
  split at hW
  · rename_i he
    obtain ⟨rfl, _⟩ := Prod.mk.inj he
    exact fin none hx.dv hy.dv (by rw [← hW]; cases neg <;> rfl)
  · rename_i id g r c ob he
    obtain ⟨rfl, e2⟩ := Prod.mk.inj he
    have e2 : [h id] = [some ob] := e2
    obtain ⟨h0, rfl⟩ := hW
    cases hx with
    | ptr _ _ _ _ _ rg _ hl hg hp =>
      obtain ⟨r2, q1, q2, _⟩ := R.hp id ob (by simpa using e2)
      rw [hl] at q1; cases q1
      obtain ⟨b, _, hv⟩ := hp (by omega)
      exact fin _ hv hy.dv (by cases neg <;> rfl)
  · rename_i he
    obtain ⟨rfl, _⟩ := Prod.mk.inj he
    cases hx with
    | pat cs b o us hb h1 h2 => exact fin _ rfl hy.dv (by rw [← hW]; cases neg <;> rfl)
  · exact hW.elim

theorem eqn_does (R : Rel Γ s h a w ok lv) {op : BinOp} {neg : Bool} {t e : TypeId} {x y : Operand} {xv yv : Value} {xs : S} (ht : Γ.P.underlying t = some (.slice e))
    (hop : op = if neg then .neq else .eql) (hx : RepS w ok lv xs xv) (hy : yv = .slice none 0 0) {u : U}
    (hW : eqnW neg xs (· = u)) : Does Γ s h a w (do eqGuard op t x y xv yv; Go.binOp op t xv yv) u := by
  subst hy
  have key : ∀ (p : Option Addr) (l c : Nat), xv = .slice p l c → u = ⟨vB (if neg then !p.isNone else p.isNone), []⟩ → Does Γ s h a w (do eqGuard op t x y xv (.slice none 0 0); Go.binOp op t xv (.slice none 0 0)) u := by
    intro p l c e1 e3
    subst e1 e3
    have he : (Op.equal t (.slice p l c) (.slice none 0 0)).run Γ.P w = .ok p.isNone w := by
      have hd : ∀ d, (Op.equalIn (d + 1) t (.slice p l c) (.slice none 0 0)).run Γ.P w = .ok p.isNone w := by
        intro d
        cases p <;> simp [Op.equalIn, run_underlying ht]
      exact hd 9999
    cases neg
    · simp only [Bool.false_eq_true, if_false] at hop; subst hop
      exact Does.pure R (v := .bool p.isNone) (by simp [eqGuard, Go.binOp, he]) (.d _ _ (.v _))
    · simp only [if_true] at hop; subst hop
      exact Does.pure R (v := .bool !p.isNone) (by simp [eqGuard, Go.binOp, he]) (.d _ _ (.v _))
  unfold eqnW at hW
  split at hW
  · exact key none 0 0 hx.dv (by rw [← hW]; cases neg <;> rfl)
  · cases hx with
    | d _ _ hx => cases hx with
      | sn _ _ ad l c _ => exact key (some ad) l c rfl (by rw [← hW]; cases neg <;> rfl)
  · exact hW.elim

theorem toInt_does (R : Rel Γ s h a w ok lv) {src dst : TypeId} {k : IntKind} {xv : Value} {xs : S} (hs : ∃ d, Γ.P.underlying src = some d) (hd : Γ.P.underlying dst = some (.int k)) (hx : RepS w ok lv xs xv) {u : U}
    (hW : toIntW k xs (· = u)) : Does Γ s h a w (Go.convert src dst xv) u := by
  unfold toIntW at hW
  split at hW
  · have e1 := hx.dv
    subst e1 hW
    obtain ⟨d, hs⟩ := hs
    exact Does.pure R (by simp [Go.convert, run_underlying hs, run_underlying hd, Conv.intToInt]) (.d _ _ (.v _))
  · have e1 := hx.dv
    subst e1
    obtain ⟨d, hs⟩ := hs
    split at hW
    · rename_i n hn
      obtain ⟨h1, h2, rfl⟩ := hW
      exact Does.pure R (by simp [Go.convert, run_underlying hs, run_underlying hd, Conv.floatToInt, hn, h1, h2]) (.d _ _ (.v _))
    · exact hW.elim
  · exact hW.elim

theorem toF_inv {k : FloatKind} {xs : S} {u : U} (hW : fuW (.toF k) xs (· = u)) : ∃ ki n, xs = .d (.v (.int ki n)) ∧ u = ⟨.d (.v (.float k (k.nearest n))), []⟩ := by
  unfold fuW at hW
  split at hW
  · rename_i heq; cases heq
  · rename_i heq; cases heq
  · rename_i heq; cases heq; exact ⟨_, _, rfl, hW.symm⟩
  · exact hW.elim
theorem re_inv {xs : S} {u : U} (hW : fuW .re xs (· = u)) : ∃ k a b, xs = .d (.v (.complex k a b)) ∧ u = ⟨.d (.v (.float k a)), []⟩ := by
  unfold fuW at hW
  split at hW
  · exact ⟨_, _, _, rfl, hW.symm⟩
  · rename_i heq; cases heq
  · rename_i heq; cases heq
  · exact hW.elim
theorem im_inv {xs : S} {u : U} (hW : fuW .im xs (· = u)) : ∃ k a b, xs = .d (.v (.complex k a b)) ∧ u = ⟨.d (.v (.float k b)), []⟩ := by
  unfold fuW at hW
  split at hW
  · rename_i heq; cases heq
  · exact ⟨_, _, _, rfl, hW.symm⟩
  · rename_i heq; cases heq
  · exact hW.elim
theorem real_does (R : Rel Γ s h a w ok lv) {ts : Array TypeId} {ty : TypeId} {xv : Value} {xs : S} (hx : RepS w ok lv xs xv) {u : U} (hW : fuW .re xs (· = u)) : Does Γ s h a w (Builtin.real_ ts ty #[xv]) u := by
  obtain ⟨k, p, q, rfl, rfl⟩ := re_inv hW
  have e1 := hx.dv
  subst e1
  exact Does.pure R rfl (.d _ _ (.v _))
theorem imag_does (R : Rel Γ s h a w ok lv) {ts : Array TypeId} {ty : TypeId} {xv : Value} {xs : S} (hx : RepS w ok lv xs xv) {u : U} (hW : fuW .im xs (· = u)) : Does Γ s h a w (Builtin.imag_ ts ty #[xv]) u := by
  obtain ⟨k, p, q, rfl, rfl⟩ := im_inv hW
  have e1 := hx.dv
  subst e1
  exact Does.pure R rfl (.d _ _ (.v _))
theorem complex_does (R : Rel Γ s h a w ok lv) {ts : Array TypeId} {ty : TypeId} {xv yv : Value} {xs ys : S} (hx : RepS w ok lv xs xv) (hy : RepS w ok lv ys yv) {u : U} (hW : fcxW xs ys (· = u)) : Does Γ s h a w (Builtin.complex_ ts ty #[xv, yv]) u := by
  unfold fcxW at hW
  split at hW
  · rename_i k a k' b
    obtain ⟨rfl, rfl⟩ := hW
    have e1 := hx.dv
    have e2 := hy.dv
    subst e1 e2
    exact Does.pure R (by show (if k = k then (pure (.complex k a b) : Sem Value) else stuck _).run _ _ = _; rw [if_pos rfl]; rfl) (.d _ _ (.v _))
  · exact hW.elim
theorem toF_does (R : Rel Γ s h a w ok lv) {src dst : TypeId} {k : FloatKind} {xv : Value} {xs : S} (hs : ∃ d, Γ.P.underlying src = some d) (hd : Γ.P.underlying dst = some (.float k)) (hx : RepS w ok lv xs xv) {u : U}
    (hW : fuW (.toF k) xs (· = u)) : Does Γ s h a w (Go.convert src dst xv) u := by
  obtain ⟨ki, n, rfl, rfl⟩ := toF_inv hW
  have e1 := hx.dv
  subst e1
  obtain ⟨d, hs⟩ := hs
  exact Does.pure R (by simp [Go.convert, run_underlying hs, run_underlying hd, Conv.intToFloat]) (.d _ _ (.v _))

theorem ext_does (R : Rel Γ s h a w ok lv) {i : Nat} {xv : Value} {x : A} (hx : RepS w ok lv x.1 xv) {u : U} (hW : extW i x (· = u)) : Does Γ s h a w (Instr.extract xv i) u := by
  unfold extW at hW
  split at hW
  · rename_i ss _
    split at hW
    · rename_i c r hc
      subst hW
      cases hx with
      | tup _ us hl hh =>
        have hc' : ss[i]? = some c := by
          have : (ss.drop i)[0]? = some c := by rw [hc]; rfl
          simpa using this
        have hlt : i < us.length := by
          have := (List.getElem?_eq_some_iff.1 hc').1
          omega
        refine Does.pure R (v := us[i]) (by simp [Instr.extract, hlt]) (hh i c us[i] hc' (by simp [hlt]))
    · exact hW.elim
  · exact hW.elim

/-- A view of a living row of that age. -/
theorem Rel.view (R : Rel Γ s h a w ok lv) {id g off len : Nat} {ob : Ob} {v : Value} (hv : RepS w ok lv (.view id g off len) v) (ho : h id = some ob) (hg : g = ob.gen) :
    ∃ r, lv id = some r ∧ r.gen = ob.gen ∧ BodyAt w ok lv r ob.body ∧ ViewAt r off len v := by
  cases hv with
  | view _ _ _ _ _ r _ hl hg' hp =>
    obtain ⟨r2, q1, q2, q3⟩ := R.hp id ob ho
    rw [hl] at q1; cases q1
    exact ⟨r, hl, q2, q3, hp (by omega)⟩

theorem Rel.ptr (R : Rel Γ s h a w ok lv) {id g row cell : Nat} {ob : Ob} {v : Value} (hv : RepS w ok lv (.ptr id g row cell) v) (ho : h id = some ob) (hg : g = ob.gen) :
    ∃ r, lv id = some r ∧ r.gen = ob.gen ∧ BodyAt w ok lv r ob.body ∧ PtrAt r row cell v := by
  cases hv with
  | ptr _ _ _ _ _ r _ hl hg' hp =>
    obtain ⟨r2, q1, q2, q3⟩ := R.hp id ob ho
    rw [hl] at q1; cases q1
    exact ⟨r, hl, q2, q3, hp (by omega)⟩

theorem len_does (R : Rel Γ s h a w ok lv) {t ty e : TypeId} {xv : Value} {x : S} (ht : Γ.P.underlying t = some (.slice e)) (hx : RepS w ok lv x xv)
    {u : U} (hW : lenW (att h x) (· = u)) : Does Γ s h a w (Builtin.len_ #[t] ty #[xv]) u := by
  have sl : ∀ p n c, xv = .slice p n c → (Builtin.len_ #[t] ty #[xv]).run Γ.P w = .ok (.int .i64 n) w := by
    intro p n c e
    subst e
    simp [Builtin.len_, run_underlying ht, goInt]
  unfold lenW at hW
  split at hW
  · rename_i he
    obtain ⟨rfl, _⟩ := Prod.mk.inj he
    subst hW
    cases hx with
    | d _ _ hx =>
      cases hx with
      | nil => exact Does.pure R (sl _ _ _ rfl) (.d _ _ (.v _))
      | emp => exact Does.pure R (sl _ _ _ rfl) (.d _ _ (.v _))
      | sl _ _ b o cap us hr hc hb h1 h2 => exact Does.pure R (sl _ _ _ rfl) (.d _ _ (.v _))
  · rename_i he
    obtain ⟨rfl, _⟩ := Prod.mk.inj he
    subst hW
    exact Does.pure R (sl _ _ _ hx.dv) (.d _ _ (.v _))
  · rename_i id g off len ob he
    obtain ⟨rfl, e2⟩ := Prod.mk.inj he
    have e2 : [h id] = [some ob] := e2
    obtain ⟨h0, rfl⟩ := hW
    obtain ⟨r, _, _, _, hv⟩ := R.view hx (by simpa using e2) h0
    unfold ViewAt at hv
    split at hv
    · obtain ⟨rfl, p0, hv⟩ := hv
      exact Does.pure R (sl _ _ _ hv) (.d _ _ (.v _))
    · obtain ⟨cap, o, hv, _⟩ := hv
      exact Does.pure R (sl _ _ _ hv) (.d _ _ (.v _))
  · exact hW.elim

theorem lenS_does (R : Rel Γ s h a w ok lv) {t ty : TypeId} {xv : Value} {x : S} (ht : Γ.P.underlying t = some .string) (hx : RepS w ok lv x xv)
    {u : U} (hW : lenSW x (· = u)) : Does Γ s h a w (Builtin.len_ #[t] ty #[xv]) u := by
  unfold lenSW at hW
  split at hW
  · subst hW
    have e1 := hx.dv
    subst e1
    exact Does.pure R (by simp [Builtin.len_, run_underlying ht, goInt]) (.d _ _ (.v _))
  · exact hW.elim

theorem mm_does (R : Rel Γ s h a w ok lv) {isMax : Bool} {xv yv : Value} {x y : S} (hx : RepS w ok lv x xv) (hy : RepS w ok lv y yv)
    {u : U} (hW : mmW isMax x y (· = u)) : Does Γ s h a w (if isMax then Builtin.max2 xv yv else Builtin.min2 xv yv) u := by
  unfold mmW at hW
  split at hW
  · rename_i k p k' q
    obtain ⟨rfl, rfl⟩ := hW
    have e1 := hx.dv
    have e2 := hy.dv
    subst e1 e2
    cases isMax
    · refine Does.pure R (v := .int k (min p q)) ?_ (.d _ _ (.v _))
      simp only [Builtin.min2, Bool.false_eq_true, if_false, Sem.run_pure]
      congr 2
      split <;> omega
    · refine Does.pure R (v := .int k (max p q)) ?_ (.d _ _ (.v _))
      simp only [Builtin.max2, if_true, Sem.run_pure]
      congr 2
      split <;> omega
  · exact hW.elim

theorem ixs_does (R : Rel Γ s h a w ok lv) {t : TypeId} {xv iv : Value} {x i : A} (ht : Γ.P.underlying t = some .string) (hx : RepS w ok lv x.1 xv) (hi : RepS w ok lv i.1 iv)
    {u : U} (hW : ixsW x i (· = u)) : Does Γ s h a w (Instr.index t xv iv) u := by
  unfold ixsW at hW
  split at hW
  · rename_i st _ k n _
    obtain ⟨h0, h1, h2⟩ := hW
    have e1 := hx.dv
    have e2 := hi.dv
    subst e1 e2
    have hlt : n.toNat < st.size := by omega
    have hc := h2 st[n.toNat] (by simp [hlt])
    subst hc
    exact Does.pure R (by simp [Instr.index, asIntOf, run_underlying ht, h0, hlt]) (.d _ _ (.v _))
  · exact hW.elim

theorem nilck_does (R : Rel Γ s h a w ok lv) {xv : Value} {x : S} (hx : RepS w ok lv x xv)
    {u : U} (hW : nilckW (att h x) (· = u)) : u = ⟨x, []⟩ ∧ ∃ ad, xv = .pointer (some ad) := by
  unfold nilckW at hW
  split at hW
  · rename_i id g r c ob he
    obtain ⟨rfl, e2⟩ := Prod.mk.inj he
    have e2 : [h id] = [some ob] := e2
    obtain ⟨h0, rfl⟩ := hW
    obtain ⟨rg, _, _, _, b, _, q5⟩ := R.ptr hx (by simpa using e2) h0
    exact ⟨rfl, _, q5⟩
  · rename_i cs _ he
    obtain ⟨rfl, _⟩ := Prod.mk.inj he
    cases hx with
    | pat => exact ⟨hW.symm, _, rfl⟩
  · exact hW.elim

theorem oneCell_not_agg {v : Value} (h : v.oneCell' = true) : v.cells = #[v] := by
  cases v <;> first | rfl | (simp [Value.oneCell'] at h)

theorem fld_does (R : Rel Γ s h a w ok lv) {t : TypeId} {off n : Nat} {agg : Bool} {xv : Value} {x : A} {fs : Array Field} {f : Field} {j : Nat} {i : TypeInfo} {d : TypeDesc}
    (ht : Γ.P.underlying t = some (.struct fs)) (hf : fs[j]? = some f) (ho : f.offset = off) (hi : Γ.P.info? f.type = some i) (hn : i.size = n) (hd : Γ.P.underlying f.type = some d)
    (hagg : agg = isAggD d)
    (hx : RepS w ok lv x.1 xv) {u : U} (hW : fldW off n agg x (· = u)) : Does Γ s h a w (Instr.field t xv j) u := by
  have hisagg : (isAgg f.type).run Γ.P w = .ok agg w := by
    unfold isAgg
    rw [Sem.run_bind, run_underlying hd w, hagg]
    cases d <;> rfl
  unfold fldW at hW
  split at hW
  · rename_i cs _
    obtain ⟨h1, rfl⟩ := hW
    cases hx with
    | agg _ us hl ho1 hh =>
      subst ho hn
      refine Does.pure R (v := .agg ((us.drop f.offset).take i.size).toArray) ?_ ?_
      · simp [Instr.field, run_underlying ht, hf, asAgg, part, hisagg, sizeOf, typeInfo, hi, List.extract]
      · refine .agg _ _ (by simp; omega) (fun k v hk => ?_) (fun k s v hk hv => ?_)
        · rw [List.getElem?_take] at hk
          split at hk
          · rw [List.getElem?_drop] at hk; exact ho1 _ v hk
          · cases hk
        · rw [List.getElem?_take] at hk hv
          split at hk
          · rename_i hlt
            rw [if_pos hlt] at hv
            rw [List.getElem?_drop] at hk hv
            exact hh _ s v hk hv
          · cases hk
  · rename_i cs _
    split at hW
    · rename_i c r hc
      subst hW ho
      cases hx with
      | agg _ us hl ho1 hh =>
        have hc' : cs[f.offset]? = some c := by
          have : (cs.drop f.offset)[0]? = some c := by rw [hc]; rfl
          simpa using this
        have hlt : f.offset < us.length := by
          have := (List.getElem?_eq_some_iff.1 hc').1
          omega
        refine Does.pure R (v := us[f.offset]) ?_ (hh _ c _ hc' (by simp [hlt]))
        simp [Instr.field, run_underlying ht, hf, asAgg, part, hisagg, hlt]
    · exact hW.elim
  · exact hW.elim

theorem PtrAt.add {r : Reg} {row cell off : Nat} {v : Value} (h : PtrAt r row cell v) : ∃ b, v = .pointer (some ⟨b, r.off + row * r.sz + cell, none⟩) ∧ PtrAt r row (cell + off) (.pointer (some ⟨b, r.off + row * r.sz + cell + off, none⟩)) := by
  obtain ⟨b, h1, h2⟩ := h
  exact ⟨b, h2, b, h1, by simp [Nat.add_assoc]⟩

theorem addr_add (b o n : Nat) : (⟨b, o, none⟩ : Addr).add n = ⟨b, o + n, none⟩ := by
  unfold Addr.add
  split <;> simp_all

theorem fad_does (R : Rel Γ s h a w ok lv) {t : TypeId} {off : Nat} {xv : Value} {fs : Array Field} {f : Field} {j : Nat} {i : TypeInfo}
    (ht : Γ.P.underlying t = some (.struct fs)) (hf : fs[j]? = some f) (ho : f.offset = off) (hi : Γ.P.info? f.type = some i) (hn : i.size ≠ 0)
    {x : S} (hx : RepS w ok lv x xv) {u : U} (hW : fadW off (att h x) (· = u)) : Does Γ s h a w (Instr.fieldAt t xv j) u := by
  have run : ∀ b o, (Instr.fieldAt t (.pointer (some ⟨b, o, none⟩)) j).run Γ.P w = .ok (.pointer (some ⟨b, o + off, none⟩)) w := by
    intro b o
    simp [Instr.fieldAt, run_underlying ht, hf, Instr.sureAddr, fieldPlace, sizeOf, typeInfo, hi, hn, addr_add, ho]
  unfold fadW at hW
  split at hW
  · rename_i cs _ he
    obtain ⟨rfl, _⟩ := Prod.mk.inj he
    subst hW
    cases hx with
    | pat _ b o us hb h1 h2 =>
      refine Does.pure R (run b o) (.pat _ b (o + off) (fun k => us (off + k)) (fun hne => hb (by intro e; subst e; simp at hne)) (fun k y hk => ?_) (fun k y hk => ?_))
      · rw [List.getElem?_drop] at hk
        have := h1 _ y hk
        rwa [← Nat.add_assoc] at this
      · rw [List.getElem?_drop] at hk
        exact h2 _ y hk
  · rename_i id g row cell ob he
    obtain ⟨rfl, e2⟩ := Prod.mk.inj he
    have e2 : [h id] = [some ob] := e2
    obtain ⟨h0, rfl⟩ := hW
    obtain ⟨r, q1, q2, _, q4⟩ := R.ptr hx (by simpa using e2) h0
    obtain ⟨b, rfl, q5⟩ := q4.add (off := off)
    exact Does.pure R (run b _) (.ptr _ _ _ _ _ r rfl q1 (by omega) (fun _ => q5))
  · exact hW.elim

theorem flatten_row {rows : List (List D)} {sz : Nat} (hr : ∀ r ∈ rows, r.length = sz) {n : Nat} {r : List D} (hn : rows[n]? = some r) (k : Nat) (x : D) (hk : r[k]? = some x) : rows.flatten[n * sz + k]? = some x := by
  induction rows generalizing n with
  | nil => simp at hn
  | cons q rows ih =>
    have hq : q.length = sz := hr q (by simp)
    cases n with
    | zero =>
      simp at hn; subst hn
      have : k < q.length := (List.getElem?_eq_some_iff.1 hk).1
      simp [List.flatten_cons, List.getElem?_append_left this, hk]
    | succ n =>
      simp at hn
      rw [List.flatten_cons, List.getElem?_append_right (by rw [hq, Nat.add_mul]; omega)]
      have e : (n + 1) * sz + k - q.length = n * sz + k := by rw [hq, Nat.add_mul]; omega
      rw [e]
      exact ih (fun r hr' => hr r (by simp [hr'])) hn

theorem flatten_length {rows : List (List D)} {sz : Nat} (hr : ∀ r ∈ rows, r.length = sz) : rows.flatten.length = rows.length * sz := by
  induction rows with
  | nil => simp
  | cons q rows ih => simp [hr q (by simp), ih (fun r h => hr r (by simp [h])), Nat.add_mul]; omega

theorem flatten_drop {rows : List (List D)} {sz : Nat} (hr : ∀ r ∈ rows, r.length = sz) (n : Nat) : (rows.drop n).flatten = rows.flatten.drop (n * sz) := by
  induction rows generalizing n with
  | nil => simp
  | cons q rows ih =>
    have hq : q.length = sz := hr q (by simp)
    cases n with
    | zero => simp
    | succ n =>
      simp only [List.drop_succ_cons, List.flatten_cons]
      rw [ih (fun r h => hr r (by simp [h])), List.drop_append, hq]
      have e : (n + 1) * sz - sz = n * sz := by rw [Nat.add_mul]; omega
      have e2 : q.drop ((n + 1) * sz) = [] := by rw [List.drop_eq_nil_iff, hq, Nat.add_mul]; omega
      rw [e, e2, List.nil_append]

theorem flatten_take {rows : List (List D)} {sz : Nat} (hr : ∀ r ∈ rows, r.length = sz) (n : Nat) : (rows.take n).flatten = rows.flatten.take (n * sz) := by
  induction rows generalizing n with
  | nil => simp
  | cons q rows ih =>
    have hq : q.length = sz := hr q (by simp)
    cases n with
    | zero => simp
    | succ n =>
      simp only [List.take_succ_cons, List.flatten_cons]
      rw [ih (fun r h => hr r (by simp [h])), List.take_append, hq]
      have e : (n + 1) * sz - sz = n * sz := by rw [Nat.add_mul]; omega
      have e2 : q.take ((n + 1) * sz) = q := List.take_of_length_le (by rw [hq, Nat.add_mul]; omega)
      rw [e, e2]

theorem iad_does (R : Rel Γ s h a w ok lv) {t e : TypeId} {i : TypeInfo} {sz : Nat} {xv iv : Value} {x y : S} (ht : Γ.P.underlying t = some (.slice e)) (hi : Γ.P.info? e = some i) (hsz : i.size = sz)
    (hx : RepS w ok lv x xv) (hy : RepS w ok lv y iv) {u : U} (hW : iadW sz (att h x) (att h y) (· = u)) : Does Γ s h a w (Instr.indexAt t xv iv) u := by
  subst hsz
  have run : ∀ (b o len cap : Nat) (k : IntKind) (n : Int), 0 ≤ n → n < (len : Int) → (Instr.indexAt t (.slice (some ⟨b, o, none⟩) len cap) (.int k n)).run Γ.P w = .ok (.pointer (some ⟨b, o + n.toNat * i.size, none⟩)) w := by
    intro b o len cap k n h0 h1
    simp [Instr.indexAt, asIntOf, run_underlying ht, h0, h1, sizeOf, typeInfo, hi, addr_add]
  unfold iadW at hW
  split at hW
  · rename_i sz' rows _ k n _ e1 e2
    obtain ⟨rfl, _⟩ := Prod.mk.inj e1
    obtain ⟨rfl, _⟩ := Prod.mk.inj e2
    obtain ⟨rfl, h0, h1, h2⟩ := hW
    have hlt : n.toNat < rows.length := by omega
    have hu := h2 rows[n.toNat] (by simp [hlt])
    subst hu
    have ev := hy.dv
    subst ev
    cases hx with
    | d _ _ hx =>
      cases hx with
      | nil => simp at hlt
      | emp => simp at hlt
      | sl _ _ b o cap us hr hc hb g1 g2 =>
        have hne : rows ≠ [] := by intro e; subst e; simp at hlt
        refine Does.pure R (run b o _ cap k n h0 h1) (.pat _ b _ (fun q => us (n.toNat * i.size + q)) (fun _ => hb hne) (fun q z hq => ?_) (fun q z hq => ?_))
        · have := g1 _ z (flatten_row hr (List.getElem?_eq_getElem hlt) q z hq)
          rwa [← Nat.add_assoc] at this
        · exact g2 _ z (flatten_row hr (List.getElem?_eq_getElem hlt) q z hq)
  · rename_i id g off len g' sz' rows k n _ e1 e2
    obtain ⟨rfl, e1'⟩ := Prod.mk.inj e1
    obtain ⟨rfl, _⟩ := Prod.mk.inj e2
    have e1' : [h id] = [some ⟨g', .arr sz' rows⟩] := e1'
    obtain ⟨hg, rfl, h0, h1, rfl⟩ := hW
    have ev := hy.dv
    subst ev
    obtain ⟨r, q1, q2, q3, q4⟩ := R.view hx (by simpa using e1') hg
    obtain ⟨s1, _⟩ := q3
    unfold ViewAt at q4
    split at q4
    · obtain ⟨rfl, _⟩ := q4; omega
    · rename_i b hb
      obtain ⟨cap, o, rfl, hlc, ho⟩ := q4
      obtain ⟨rfl, _⟩ := ho (by omega)
      refine Does.pure R (run b _ len cap k n h0 h1) (.ptr _ _ _ _ _ r rfl q1 (Nat.le_of_eq (hg.trans q2.symm)) (fun _ => ⟨b, hb, ?_⟩))
      rw [s1, Nat.add_mul]
      simp [Nat.add_assoc]
  · exact hW.elim

/-- Cells that can be read, as a load reads them. -/
theorem InBlk.cell {b : Nat} {r : Reg} {cells : List S} (hI : InBlk w ok lv b r cells) {k : Nat} {y : S} (hk : cells[k]? = some y) :
    w.cell? ⟨b, r.off + k, none⟩ = some ((w.cell? ⟨b, r.off + k, none⟩).getD undef) ∧ ((w.cell? ⟨b, r.off + k, none⟩).getD undef).oneCell' = true ∧ RepS w ok lv y ((w.cell? ⟨b, r.off + k, none⟩).getD undef) := by
  obtain ⟨c, e, fz, h1, h2, h3, h4, h5⟩ := hI
  obtain ⟨u, g1, g2, g3⟩ := h5 k y hk
  have hc : w.cell? ⟨b, r.off + k, none⟩ = some u := by rw [cell_of_row w b _ c e fz h1]; exact g1
  rw [hc]
  exact ⟨rfl, g2, g3⟩

theorem load_does (R : Rel Γ s h a w ok lv) {t : TypeId} {i : TypeInfo} {d : TypeDesc} {n : Nat} {agg : Bool} {xv : Value} {x : S} (hi : Γ.P.info? t = some i) (hn : i.size = n) (hd : Γ.P.underlying t = some d)
    (hagg : agg = isAggD d)
    (hx : RepS w ok lv x xv) {u : U} (hW : loadW n agg (att h x) (· = u)) : Does Γ s h a w (Instr.loadAt t xv) u := by
  have hisagg : (isAgg t).run Γ.P w = .ok agg w := by
    unfold isAgg
    rw [Sem.run_bind, run_underlying hd w, hagg]
    cases d <;> rfl
  -- from an address whose cells stand for 'cs' on
  have fin : ∀ (b o : Nat) (cs : List S) (us : Nat → Value), (∀ k y, cs[k]? = some y → w.cell? ⟨b, o + k, none⟩ = some (us k) ∧ (us k).oneCell' = true ∧ RepS w ok lv y (us k)) → xv = .pointer (some ⟨b, o, none⟩) →
      takeW n agg cs (· = u) → Does Γ s h a w (Instr.loadAt t xv) u := by
    intro b o cs us hc hv hm
    subst hv
    cases agg with
    | true =>
      obtain ⟨hle, rfl⟩ := hm
      have hl : (loadCells ⟨b, o, none⟩ n).run Γ.P w = .ok ((List.range n).map us).toArray w := by
        have := run_loadCells_list (P := Γ.P) w ⟨b, o, none⟩ ((List.range n).map us) (fun j v hj => by
          rw [List.getElem?_map] at hj
          cases hr : (List.range n)[j]? with
          | none => rw [hr] at hj; cases hj
          | some q =>
            rw [hr] at hj
            have hjn : j < n := by have := (List.getElem?_eq_some_iff.1 hr).1; simpa using this
            have hq : q = j := by
              have := (List.getElem?_eq_some_iff.1 hr).2
              simpa using this.symm
            subst hq
            simp at hj; subst hj
            have hlt : q < cs.length := by omega
            rw [addr_add]
            exact (hc q cs[q] (by simp [hlt])).1)
        simpa using this
      refine Does.pure R (v := .agg ((List.range n).map us).toArray) (by simp [Instr.loadAt, Instr.sureAddr, loadVar, hisagg, sizeOf, typeInfo, hi, hn, hl]) ?_
      refine .agg _ _ (by simp; omega) (fun k v hk => ?_) (fun k y v hk hv => ?_)
      · rw [List.getElem?_map] at hk
        cases hr : (List.range n)[k]? with
        | none => rw [hr] at hk; cases hk
        | some q =>
          rw [hr] at hk
          have hkn : k < n := by have := (List.getElem?_eq_some_iff.1 hr).1; simpa using this
          have hq : q = k := by
            have := (List.getElem?_eq_some_iff.1 hr).2
            simpa using this.symm
          subst hq
          simp at hk; subst hk
          exact (hc q cs[q] (List.getElem?_eq_getElem (by omega))).2.1
      · rw [List.getElem?_map] at hv
        cases hr : (List.range n)[k]? with
        | none => rw [hr] at hv; cases hv
        | some q =>
          rw [hr] at hv
          have hkn : k < n := by have := (List.getElem?_eq_some_iff.1 hr).1; simpa using this
          have hq : q = k := by
            have := (List.getElem?_eq_some_iff.1 hr).2
            simpa using this.symm
          subst hq
          simp at hv; subst hv
          rw [List.getElem?_take, if_pos hkn] at hk
          exact (hc q y hk).2.2
    | false =>
      cases cs with
      | nil => exact hm.elim
      | cons c r =>
        simp only [takeW] at hm
        subst hm
        obtain ⟨c1, c2, c3⟩ := hc 0 c rfl
        refine Does.pure R (v := us 0) (by simp [Instr.loadAt, Instr.sureAddr, loadVar, hisagg, show w.cell? ⟨b, o, none⟩ = some (us 0) from c1]) c3
  unfold loadW at hW
  split at hW
  · rename_i cs _ he
    obtain ⟨rfl, _⟩ := Prod.mk.inj he
    cases hx with
    | pat _ b o us hb h1 h2 =>
      refine fin b o (cs.map .d) us (fun k y hk => ?_) rfl hW
      rw [List.getElem?_map] at hk
      cases hq : cs[k]? with
      | none => rw [hq] at hk; cases hk
      | some z => rw [hq] at hk; simp at hk; subst hk; exact ⟨(h1 k z hq).1, (h1 k z hq).2, .d _ _ (h2 k z hq)⟩
  · rename_i id g cell g' cells he
    obtain ⟨rfl, e2⟩ := Prod.mk.inj he
    have e2 : [h id] = [some ⟨g', .box cells⟩] := e2
    obtain ⟨hg, hm⟩ := hW
    obtain ⟨r, q1, q2, q3, b, q4, rfl⟩ := R.ptr hx (by simpa using e2) hg
    obtain ⟨s1, b', s2, s3⟩ := q3
    rw [q4] at s2; cases s2
    refine fin b _ (cells.drop cell) (fun k => (w.cell? ⟨b, r.off + (cell + k), none⟩).getD undef) (fun k y hk => ?_) rfl hm
    rw [List.getElem?_drop] at hk
    have e : r.off + 0 * r.sz + cell + k = r.off + (cell + k) := by omega
    rw [e]
    exact s3.cell hk
  · rename_i id g row cell g' sz rows he
    obtain ⟨rfl, e2⟩ := Prod.mk.inj he
    have e2 : [h id] = [some ⟨g', .arr sz rows⟩] := e2
    obtain ⟨hg, hlt, hm⟩ := hW
    obtain ⟨r, q1, q2, q3, b, q4, rfl⟩ := R.ptr hx (by simpa using e2) hg
    obtain ⟨s1, s2, s3, s4⟩ := q3
    rw [q4] at s4
    have hrow : rows[row]? = some rows[row] := List.getElem?_eq_getElem hlt
    refine fin b _ ((rows[row].drop cell).map .d) (fun k => (w.cell? ⟨b, r.off + (row * sz + (cell + k)), none⟩).getD undef) (fun k y hk => ?_) rfl (hm _ hrow)
    rw [List.getElem?_map, List.getElem?_drop] at hk
    cases hq : rows[row][cell + k]? with
    | none => rw [hq] at hk; cases hk
    | some z =>
      rw [hq] at hk; simp at hk; subst hk
      have e : r.off + row * r.sz + cell + k = r.off + (row * sz + (cell + k)) := by rw [s1]; omega
      rw [e]
      refine s4.cell ?_
      rw [List.getElem?_map, flatten_row s3 hrow _ z hq]
      rfl
  · exact hW.elim

/-- A load, and the world stays. -/
theorem load_pure (R : Rel Γ s h a w ok lv) {t : TypeId} {i : TypeInfo} {d : TypeDesc} {n : Nat} {agg : Bool} {xv : Value} {x : S} (hi : Γ.P.info? t = some i) (hn : i.size = n) (hd : Γ.P.underlying t = some d)
    (hagg : agg = isAggD d)
    (hx : RepS w ok lv x xv) {u : U} (hW : loadW n agg (att h x) (· = u)) : (∃ v, (Instr.loadAt t xv).run Γ.P w = .ok v w ∧ RepS w ok lv u.val v) := by
  have hisagg : (isAgg t).run Γ.P w = .ok agg w := by
    unfold isAgg
    rw [Sem.run_bind, run_underlying hd w, hagg]
    cases d <;> rfl
  -- from an address whose cells stand for 'cs' on
  have fin : ∀ (b o : Nat) (cs : List S) (us : Nat → Value), (∀ k y, cs[k]? = some y → w.cell? ⟨b, o + k, none⟩ = some (us k) ∧ (us k).oneCell' = true ∧ RepS w ok lv y (us k)) → xv = .pointer (some ⟨b, o, none⟩) →
      takeW n agg cs (· = u) → (∃ v, (Instr.loadAt t xv).run Γ.P w = .ok v w ∧ RepS w ok lv u.val v) := by
    intro b o cs us hc hv hm
    subst hv
    cases agg with
    | true =>
      obtain ⟨hle, rfl⟩ := hm
      have hl : (loadCells ⟨b, o, none⟩ n).run Γ.P w = .ok ((List.range n).map us).toArray w := by
        have := run_loadCells_list (P := Γ.P) w ⟨b, o, none⟩ ((List.range n).map us) (fun j v hj => by
          rw [List.getElem?_map] at hj
          cases hr : (List.range n)[j]? with
          | none => rw [hr] at hj; cases hj
          | some q =>
            rw [hr] at hj
            have hjn : j < n := by have := (List.getElem?_eq_some_iff.1 hr).1; simpa using this
            have hq : q = j := by
              have := (List.getElem?_eq_some_iff.1 hr).2
              simpa using this.symm
            subst hq
            simp at hj; subst hj
            have hlt : q < cs.length := by omega
            rw [addr_add]
            exact (hc q cs[q] (by simp [hlt])).1)
        simpa using this
      refine ⟨.agg ((List.range n).map us).toArray, by simp [Instr.loadAt, Instr.sureAddr, loadVar, hisagg, sizeOf, typeInfo, hi, hn, hl], ?_⟩
      refine .agg _ _ (by simp; omega) (fun k v hk => ?_) (fun k y v hk hv => ?_)
      · rw [List.getElem?_map] at hk
        cases hr : (List.range n)[k]? with
        | none => rw [hr] at hk; cases hk
        | some q =>
          rw [hr] at hk
          have hkn : k < n := by have := (List.getElem?_eq_some_iff.1 hr).1; simpa using this
          have hq : q = k := by
            have := (List.getElem?_eq_some_iff.1 hr).2
            simpa using this.symm
          subst hq
          simp at hk; subst hk
          exact (hc q cs[q] (List.getElem?_eq_getElem (by omega))).2.1
      · rw [List.getElem?_map] at hv
        cases hr : (List.range n)[k]? with
        | none => rw [hr] at hv; cases hv
        | some q =>
          rw [hr] at hv
          have hkn : k < n := by have := (List.getElem?_eq_some_iff.1 hr).1; simpa using this
          have hq : q = k := by
            have := (List.getElem?_eq_some_iff.1 hr).2
            simpa using this.symm
          subst hq
          simp at hv; subst hv
          rw [List.getElem?_take, if_pos hkn] at hk
          exact (hc q y hk).2.2
    | false =>
      cases cs with
      | nil => exact hm.elim
      | cons c r =>
        simp only [takeW] at hm
        subst hm
        obtain ⟨c1, c2, c3⟩ := hc 0 c rfl
        exact ⟨us 0, by simp [Instr.loadAt, Instr.sureAddr, loadVar, hisagg, show w.cell? ⟨b, o, none⟩ = some (us 0) from c1], c3⟩
  unfold loadW at hW
  split at hW
  · rename_i cs _ he
    obtain ⟨rfl, _⟩ := Prod.mk.inj he
    cases hx with
    | pat _ b o us hb h1 h2 =>
      refine fin b o (cs.map .d) us (fun k y hk => ?_) rfl hW
      rw [List.getElem?_map] at hk
      cases hq : cs[k]? with
      | none => rw [hq] at hk; cases hk
      | some z => rw [hq] at hk; simp at hk; subst hk; exact ⟨(h1 k z hq).1, (h1 k z hq).2, .d _ _ (h2 k z hq)⟩
  · rename_i id g cell g' cells he
    obtain ⟨rfl, e2⟩ := Prod.mk.inj he
    have e2 : [h id] = [some ⟨g', .box cells⟩] := e2
    obtain ⟨hg, hm⟩ := hW
    obtain ⟨r, q1, q2, q3, b, q4, rfl⟩ := R.ptr hx (by simpa using e2) hg
    obtain ⟨s1, b', s2, s3⟩ := q3
    rw [q4] at s2; cases s2
    refine fin b _ (cells.drop cell) (fun k => (w.cell? ⟨b, r.off + (cell + k), none⟩).getD undef) (fun k y hk => ?_) rfl hm
    rw [List.getElem?_drop] at hk
    have e : r.off + 0 * r.sz + cell + k = r.off + (cell + k) := by omega
    rw [e]
    exact s3.cell hk
  · rename_i id g row cell g' sz rows he
    obtain ⟨rfl, e2⟩ := Prod.mk.inj he
    have e2 : [h id] = [some ⟨g', .arr sz rows⟩] := e2
    obtain ⟨hg, hlt, hm⟩ := hW
    obtain ⟨r, q1, q2, q3, b, q4, rfl⟩ := R.ptr hx (by simpa using e2) hg
    obtain ⟨s1, s2, s3, s4⟩ := q3
    rw [q4] at s4
    have hrow : rows[row]? = some rows[row] := List.getElem?_eq_getElem hlt
    refine fin b _ ((rows[row].drop cell).map .d) (fun k => (w.cell? ⟨b, r.off + (row * sz + (cell + k)), none⟩).getD undef) (fun k y hk => ?_) rfl (hm _ hrow)
    rw [List.getElem?_map, List.getElem?_drop] at hk
    cases hq : rows[row][cell + k]? with
    | none => rw [hq] at hk; cases hk
    | some z =>
      rw [hq] at hk; simp at hk; subst hk
      have e : r.off + row * r.sz + cell + k = r.off + (row * sz + (cell + k)) := by rw [s1]; omega
      rw [e]
      refine s4.cell ?_
      rw [List.getElem?_map, flatten_row s3 hrow _ z hq]
      rfl
  · exact hW.elim

theorem slc_run {P : Program} {w : World} {t e : TypeId} {i : TypeInfo} (ht : P.underlying t = some (.slice e)) (hi : P.info? e = some i) (a : Option Addr) (len cap : Nat) (lo hi' : Option Value)
    {l u : Nat} (hlc : len ≤ cap) (hlu : l ≤ u) (hul : u ≤ len)
    (hlo : (lo = none ∧ l = 0) ∨ ∃ k, lo = some (.int k l)) (hhi : (hi' = none ∧ u = len) ∨ ∃ k, hi' = some (.int k u)) :
    (Instr.sliceAt t (.slice a len cap) lo hi' none).run P w = .ok (.slice (if cap = l then a else a.map (·.add (l * i.size))) (u - l) (cap - l)) w := by
  have hcap : u ≤ cap := by omega
  have n1 : ¬ cap < u := by omega
  have n2 : ¬ u < l := by omega
  rcases hlo with ⟨rfl, rfl⟩ | ⟨k, rfl⟩ <;> rcases hhi with ⟨rfl, rfl⟩ | ⟨k', rfl⟩ <;>
    simp [Instr.sliceAt, Instr.slice, run_underlying ht, Instr.sliceBounds, Instr.sliceBound, asIntOf, sizeOf, typeInfo, hi, hcap, hlu, n1, n2]

theorem boundsW_vals {n : Nat} {lo hi : Option A} {l u : Nat} (hb : boundsW n lo hi (fun l' u' => l' = l ∧ u' = u)) :
    ((lo = none ∧ l = 0) ∨ ∃ k q, lo = some (.d (.v (.int k l)), q)) ∧ ((hi = none ∧ u = n) ∨ ∃ k q, hi = some (.d (.v (.int k u)), q)) := by
  unfold boundsW at hb
  split at hb
  · exact ⟨.inl ⟨rfl, hb.1.symm⟩, .inl ⟨rfl, hb.2.symm⟩⟩
  · obtain ⟨h0, h1, rfl, rfl⟩ := hb
    exact ⟨.inr ⟨_, _, by rw [Int.toNat_of_nonneg h0]⟩, .inl ⟨rfl, rfl⟩⟩
  · obtain ⟨h0, h1, rfl, rfl⟩ := hb
    exact ⟨.inl ⟨rfl, rfl⟩, .inr ⟨_, _, by rw [Int.toNat_of_nonneg h0]⟩⟩
  · obtain ⟨h0, h1, h2, rfl, rfl⟩ := hb
    exact ⟨.inr ⟨_, _, by rw [Int.toNat_of_nonneg h0]⟩, .inr ⟨_, _, by rw [Int.toNat_of_nonneg (by omega)]⟩⟩
  · exact hb.elim

/-- Operands that may be absent. -/
def RepO (w : World) (ok : Nat → Prop) (lv : Nat → Option Reg) : Option A → Option Value → Prop
  | none, none => True
  | some x, some v => RepS w ok lv x.1 v
  | _, _ => False

theorem RepO.val {lo : Option A} {vo : Option Value} (h : RepO w ok lv lo vo) {l : Nat} {n : Nat} (hb : (lo = none ∧ l = n) ∨ ∃ k q, lo = some (.d (.v (.int k l)), q)) :
    (vo = none ∧ l = n) ∨ ∃ k, vo = some (.int k l) := by
  rcases hb with ⟨rfl, rfl⟩ | ⟨k, q, rfl⟩
  · cases vo with
    | none => exact .inl ⟨rfl, rfl⟩
    | some v => exact h.elim
  · cases vo with
    | none => exact h.elim
    | some v => exact .inr ⟨k, by rw [RepS.dv h]⟩

theorem slc_does (R : Rel Γ s h a w ok lv) {t e : TypeId} {i : TypeInfo} {sz : Nat} {xv : Value} {x : S} {lo hi : Option A} {lov hiv : Option Value} (ht : Γ.P.underlying t = some (.slice e)) (hi' : Γ.P.info? e = some i) (hsz : i.size = sz)
    (hx : RepS w ok lv x xv) (hlo : RepO w ok lv lo lov) (hhi : RepO w ok lv hi hiv) {u : U} (hW : slcW sz (att h x) lo hi (· = u)) : Does Γ s h a w (Instr.sliceAt t xv lov hiv none) u := by
  subst hsz
  unfold slcW at hW
  split at hW
  · rename_i sz' rows _ he
    obtain ⟨rfl, _⟩ := Prod.mk.inj he
    obtain ⟨rfl, hb⟩ := hW
    obtain ⟨l, m, hlm, hm, hb1, rfl⟩ := boundsW_lin hb
    obtain ⟨v1, v2⟩ := boundsW_vals hb1
    have v1' := hlo.val v1
    have v2' := hhi.val v2
    cases hx with
    | d _ _ hx =>
      cases hx with
      | nil =>
        have h0 : m = 0 := by simpa using hm
        have h1 : l = 0 := by omega
        subst h0 h1
        refine Does.pure R (slc_run ht hi' none 0 0 lov hiv (by omega) (by omega) (by omega) v1' v2') ?_
        simp
        exact .d _ _ (.nil _)
      | emp _ a cap =>
        have h0 : m = 0 := by simpa using hm
        have h1 : l = 0 := by omega
        subst h0 h1
        refine Does.pure R (slc_run ht hi' (some a) 0 cap lov hiv (by omega) (by omega) (by omega) v1' v2') ?_
        simp only [Nat.sub_zero, Nat.sub_self, List.drop_zero, List.take_zero, List.drop_nil, List.take_nil]
        first | exact .d _ _ (.emp _ _ _) | (split <;> exact .d _ _ (.emp _ _ _))
      | sl _ _ b o cap us hr hc hb' g1 g2 =>
        refine Does.pure R (slc_run ht hi' _ _ cap lov hiv hc hlm hm v1' v2') ?_
        have hlen : ((rows.drop l).take (m - l)).length = m - l := by simp; omega
        have hr' : ∀ r ∈ rows.drop l, r.length = i.size := fun r hr' => hr r (List.mem_of_mem_drop hr')
        have hflat : ∀ k x, ((rows.drop l).take (m - l)).flatten[k]? = some x → rows.flatten[l * i.size + k]? = some x := by
          intro k x hk
          rw [flatten_take hr', flatten_drop hr, List.getElem?_take] at hk
          split at hk
          · rwa [List.getElem?_drop] at hk
          · cases hk
        by_cases hcl : cap = l
        · have hml : m - l = 0 := by omega
          rw [if_pos hcl]
          have hz : (rows.drop l).take (m - l) = [] := by rw [hml]; rfl
          rw [hz, hml]
          exact .d _ _ (.sl _ [] b o _ us (by simp) (by simp) (by simp) (by simp) (by simp))
        · rw [if_neg hcl]
          have := RepD.sl (w := w) (ok := ok) i.size ((rows.drop l).take (m - l)) b (o + l * i.size) (cap - l) (fun k => us (l * i.size + k)) (fun r hr'' => hr' r (List.mem_of_mem_take hr'')) (by rw [hlen]; omega)
            (fun hne => hb' (by intro e; subst e; simp at hne)) (fun k x hk => by
              have := g1 _ x (hflat k x hk)
              rwa [← Nat.add_assoc] at this) (fun k x hk => g2 _ x (hflat k x hk))
          rw [hlen] at this
          simp only [Option.map_some, addr_add]
          exact .d _ _ this
  · rename_i he
    obtain ⟨rfl, _⟩ := Prod.mk.inj he
    obtain ⟨l, m, hlm, hm, hb1, rfl⟩ := boundsW_lin hW
    obtain ⟨v1, v2⟩ := boundsW_vals hb1
    have v1' := hlo.val v1
    have v2' := hhi.val v2
    have h0 : m = 0 := by omega
    have h1 : l = 0 := by omega
    subst h0 h1
    have ev := hx.dv
    subst ev
    refine Does.pure R (slc_run ht hi' none 0 0 lov hiv (by omega) (by omega) (by omega) v1' v2') ?_
    simp
    exact .d _ _ (.v _)
  · rename_i id g off len g' sz' rows he
    obtain ⟨rfl, e2⟩ := Prod.mk.inj he
    have e2 : [h id] = [some ⟨g', .arr sz' rows⟩] := e2
    obtain ⟨hg, rfl, hb⟩ := hW
    obtain ⟨l, m, hlm, hm, hb1, rfl⟩ := boundsW_lin hb
    obtain ⟨v1, v2⟩ := boundsW_vals hb1
    have v1' := hlo.val v1
    have v2' := hhi.val v2
    obtain ⟨r, q1, q2, q3, q4⟩ := R.view hx (by simpa using e2) hg
    obtain ⟨s1, _⟩ := q3
    unfold ViewAt at q4
    split at q4
    · rename_i hbk
      obtain ⟨rfl, p0, rfl⟩ := q4
      have h0 : m = 0 := by omega
      have h1 : l = 0 := by omega
      subst h0 h1
      refine Does.pure R (slc_run ht hi' p0 0 0 lov hiv (by omega) (by omega) (by omega) v1' v2') (.view _ _ _ _ _ r rfl q1 (Nat.le_of_eq (hg.trans q2.symm)) fun _ => ?_)
      simp [ViewAt, hbk]
    · rename_i b hb
      obtain ⟨cap, o, rfl, hlc, ho⟩ := q4
      refine Does.pure R (slc_run ht hi' _ _ cap lov hiv hlc hlm hm v1' v2') (.view _ _ _ _ _ r rfl q1 (Nat.le_of_eq (hg.trans q2.symm)) fun _ => ?_)
      simp only [ViewAt, hb]
      by_cases hcl : cap = l
      · rw [if_pos hcl]
        exact ⟨cap - l, o, rfl, by omega, fun h0 => by omega⟩
      · rw [if_neg hcl]
        obtain ⟨rfl, ht'⟩ := ho (by omega)
        refine ⟨cap - l, r.off + off * r.sz + l * i.size, by simp only [Option.map_some, addr_add], by omega, fun _ => ⟨by rw [s1, Nat.add_mul]; omega, ?_⟩⟩
        have e : off + l + (cap - l) = off + cap := by omega
        rw [e]; exact ht'
  · exact hW.elim

theorem slcs_does (R : Rel Γ s h a w ok lv) {t : TypeId} {xv : Value} {x : A} {lo hi : Option A} {lov hiv : Option Value} (ht : Γ.P.underlying t = some .string)
    (hx : RepS w ok lv x.1 xv) (hlo : RepO w ok lv lo lov) (hhi : RepO w ok lv hi hiv) {u : U} (hW : slcsW x lo hi (· = u)) : Does Γ s h a w (Instr.sliceAt t xv lov hiv none) u := by
  unfold slcsW at hW
  split at hW
  · rename_i st _
    obtain ⟨l, m, hlm, hm, hb1, rfl⟩ := boundsW_lin hW
    obtain ⟨v1, v2⟩ := boundsW_vals hb1
    have v1' := hlo.val v1
    have v2' := hhi.val v2
    have ev := hx.dv
    subst ev
    refine Does.pure R (v := .string (st.extract l m)) ?_ (.d _ _ (.v _))
    have n1 : ¬ st.size < m := by omega
    have n2 : ¬ m < l := by omega
    rcases v1' with ⟨rfl, rfl⟩ | ⟨k, rfl⟩ <;> rcases v2' with ⟨rfl, rfl⟩ | ⟨k', rfl⟩ <;>
      simp [Instr.sliceAt, Instr.slice, run_underlying ht, Instr.sliceBounds, Instr.sliceBound, asIntOf, hm, hlm, n1, n2]
  · exact hW.elim

theorem eqCells_run {P : Program} {w : World} : True := trivial
end
end Go.Eng
