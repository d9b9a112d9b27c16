/-
  The engine, part H: the machine's operations told without types, and that each does what part C says.
-/
import Derived.Test.YthbonnlhoaeflaaEngG
set_option linter.unusedVariables false
set_option linter.unusedSimpArgs false
namespace Go.Eng
open Go.RowKit Go.Lib

def trAs (N : Nat) (xs : List Operand) : Option (List LA) := xs.mapM (trA N)
def trO (N : Nat) : Option Operand → Option (Option LA)
  | none => some none
  | some x => (trA N x).map some

def trBuiltin (P : Program) (N : Nat) (b : Builtin) (args : List Operand) (ts : List TypeId) : Option LOp :=
  match b, args, ts with
  | .len, [x], [t] => match P.underlying t with
    | some (.slice _) => (trA N x).map .len
    | some .string => (trA N x).map .lenS
    | _ => none
  | .append, [x, y], [t, tx] => match P.underlying t with
    | some (.slice e) => match P.info? e with
      | some i => match i.zero with
        | some z => if i.size = z.cells.size ∧ 0 < i.size then (match P.underlying tx with
          | some (.slice _) => (match trA N x, trA N y with
            | some x', some y' => some (.app i.size i.bytes z.cells.toList x' y')
            | _, _ => none)
          | some .string => if i.size = 1 ∧ i.bytes = 1 then (match trA N x, trA N y with
            | some x', some y' => some (.appStr z.cells.toList x' y')
            | _, _ => none) else none
          | _ => none) else none
        | none => none
      | none => none
    | _ => none
  | .min, [x, y], _ => match trA N x, trA N y with
    | some x', some y' => some (.mm false x' y')
    | _, _ => none
  | .max, [x, y], _ => match trA N x, trA N y with
    | some x', some y' => some (.mm true x' y')
    | _, _ => none
  | .real, [x], _ => (trA N x).map (.fu .re)
  | .imag, [x], _ => (trA N x).map (.fu .im)
  | .complex, [x, y], _ => match trA N x, trA N y with
    | some x', some y' => some (.fcx x' y')
    | _, _ => none
  | _, _, _ => none

def trBin (P : Program) (op : BinOp) (t : TypeId) (x y : LA) : Option LOp :=
  match P.underlying t with
  | some (.int _) => some (.bin op x y)
  | some .string => some (.bin op x y)
  | some (.float _) => some (.bin op x y)
  | some (.complex _) => some (.bin op x y)
  | some .bool => if op = .eql then some (.eqb false x y) else if op = .neq then some (.eqb true x y) else none
  | some (.pointer _) => if op = .eql then some (.eqp false x y) else if op = .neq then some (.eqp true x y) else none
  | some (.slice _) => match y with
    | .c (.slice none 0 0) => if op = .eql then some (.eqn false x) else if op = .neq then some (.eqn true x) else none
    | _ => none
  | some (.struct fs) => match flatKinds P 0 fs.toList with
    | some ks => if P.stoodInHeld t = false ∧ P.eqGuardType P.depth t = false then (if op = .eql then some (.eqs false ks x y) else if op = .neq then some (.eqs true ks x y) else none) else none
    | none => none
  | _ => none

def trConv (P : Program) (src dst : TypeId) (x : LA) : Option LOp :=
  match P.underlying src, P.underlying dst with
  | some (.int _), some (.int k) => some (.toInt k x)
  | some (.float _), some (.int k) => some (.toInt k x)
  | some (.int _), some (.float k) => some (.fu (.toF k) x)
  | some .string, some (.slice e) => if P.underlying e matches some (.int .u8) then some (.toBytes x) else none
  | some (.slice e), some .string => if P.underlying e matches some (.int .u8) then some (.toStr x) else none
  | some (.slice e), some (.slice _) => if src = dst then (if P.underlying e matches some (.int .u8) then some (.mark x) else none) else none
  | _, _ => none

def trParts (P : Program) (N : Nat) (fs : Array Field) : List (Nat × Operand) → Option (List (Nat × Nat × LA))
  | [] => some []
  | (j, x) :: ps => match fs[j]? with
    | some f => match P.info? f.type, trA N x, trParts P N fs ps with
      | some i, some x', some r => some ((f.offset, i.size, x') :: r)
      | _, _, _ => none
    | none => none

def trElems (N len : Nat) : List (Nat × Operand) → Option (List (Nat × LA))
  | [] => some []
  | (j, x) :: ps => if j < len then (match trA N x, trElems N len ps with
    | some x', some r => some ((j, x') :: r)
    | _, _ => none) else none

def trField (P : Program) (s : TypeId) (f : Nat) : Option (Nat × Nat × Bool) :=
  match P.underlying s with
  | some (.struct fs) => match fs[f]? with
    | some fl => match P.info? fl.type, P.underlying fl.type with
      | some i, some d => if i.size ≠ 0 then some (fl.offset, i.size, isAggD d) else none
      | _, _ => none
    | none => none
  | _ => none

def trElem (P : Program) (t : TypeId) : Option (TypeId × TypeInfo × Value) :=
  match P.underlying t with
  | some (.slice e) => match P.info? e with
    | some i => match i.zero with
      | some z => if i.size = z.cells.size ∧ 0 < i.size ∧ z.cells.toList.all Value.oneCell' = true then some (e, i, z) else none
      | none => none
    | none => none
  | _ => none

def trOp (P : Program) (N : Nat) (o : Oper) : Option LOp :=
  match o.op with
  | .move x => (trA N x).map .mv
  | .assign x => (trA N x).map .mv
  | .pick c a b => match trA N c, trA N a, trA N b with
    | some c', some a', some b' => some (.pick c' a' b')
    | _, _, _ => none
  | .alloc t => match P.info? t with
    | some i => match i.zero with
      | some z => if z.cells.toList.all Value.oneCell' = true then some (.alloc z.cells.toList) else none
      | none => none
    | none => none
  | .box t x => match P.info? t, trA N x with
    | some i, some x' => some (.box i.size x')
    | _, _ => none
  | .build t parts => match P.underlying t, P.info? t with
    | some (.struct fs), some it => match it.zero, fs.toList.mapM (fun f => (P.info? f.type).map fun i => (f.offset, i.size)), trParts P N fs parts.toList with
      | some z, some _, some ps => if z.cells.toList.all Value.oneCell' = true then some (.build z.cells.toList ps) else none
      | _, _, _ => none
    | _, _ => none
  | .buildSlice t len parts => match trElem P t, trElems N len parts.toList with
    | some (_, i, z), some ps => if len * i.size ≤ 16777216 then some (.bslice i.size len z.cells.toList ps) else none
    | _, _ => none
  | .load t a => match P.info? t, P.underlying t, trA N a with
    | some i, some d, some a' => some (.load i.size (isAggD d) a')
    | _, _, _ => none
  | .store t a x => match P.info? t, trA N a, trA N x with
    | some i, some a', some x' => some (.store i.size a' x')
    | _, _, _ => none
  | .nilCheck x => (trA N x).map .nilck
  | .binOp op t x y _ => match trA N x, trA N y with
    | some x', some y' => trBin P op t x' y'
    | _, _ => none
  | .unOp op _ x => (trA N x).map (.un op)
  | .convert src dst x => match trA N x with
    | some x' => trConv P src dst x'
    | none => none
  | .makeSlice t l c => match trElem P t, trA N l, trA N c with
    | some (_, i, z), some l', some c' => some (.mksl i.size i.bytes z.cells.toList l' c')
    | _, _, _ => none
  | .slice t x lo hi mx => match P.underlying t, mx with
    | some (.slice e), some m => match P.info? e, trA N x, lo, trO N hi, trA N m with
      | some i, some x', none, some (some (.c (.int _ n))), some (.c (.int _ n')) => if n = 0 ∧ n' = 0 then some (.slc0 i.size x') else none
      | _, _, _, _, _ => none
    | some (.slice e), none => match P.info? e, trA N x, trO N lo, trO N hi with
      | some i, some x', some lo', some hi' => some (.slc i.size x' lo' hi')
      | _, _, _, _ => none
    | some .string, none => match trA N x, trO N lo, trO N hi with
      | some x', some lo', some hi' => some (.slcs x' lo' hi')
      | _, _, _ => none
    | _, _ => none
  | .fieldAddr s x f => match trField P s f, trA N x with
    | some (off, _, _), some x' => some (.fad off x')
    | _, _ => none
  | .field s x f => match trField P s f, trA N x with
    | some (off, n, ag), some x' => some (.fld off n ag x')
    | _, _ => none
  | .indexAddr t x i => match P.underlying t with
    | some (.slice e) => match P.info? e, trA N x, trA N i with
      | some inf, some x', some i' => some (.iad inf.size x' i')
      | _, _, _ => none
    | _ => none
  | .index t x i => match P.underlying t with
    | some .string => match trA N x, trA N i with
      | some x', some i' => some (.ixs x' i')
      | _, _ => none
    | _ => none
  | .extract x i => (trA N x).map (.ext i)
  | .call c => match c.callee with
    | .value (.func f) => (trAs N c.args.toList).map (.call f)
    | .value y => match trA N y, trAs N c.args.toList with
      | some x', some as => some (.callv x' as)
      | _, _ => none
    | .builtin b => trBuiltin P N b c.args.toList c.argTypes.toList
    | _ => none
  | .makeFunc (.func f) fi cs => if fi.size = 0 then (trAs N cs.toList).map (.mkf f) else none
  | _ => none

section
variable {Γ : Ctx} {s : Nat → S} {h : Nat → Option Ob} {a : Act} {w : World} {ok : Nat → Prop} {lv : Nat → Option Reg}

/-- What an operation does, for its weakest precondition. -/
theorem does_wp {o : Oper} {m : Sem Value} {u : U} {next : Act → World → Prop} {Q : Exit → Act → World → Prop} (hm : execOp a.eval o = (do pure (.value (← m)))) (hD : Does Γ s h a w m u)
    (hK : ∀ v w' ok' lv', Rel Γ s (hwr h u.wr) a w' ok' lv' → RepS w' ok' lv' u.val v → next (a.put o.dst v) w') : o.wp Γ.P a w next Q := by
  obtain ⟨v, w', ok', lv', h1, h2, h3⟩ := hD
  unfold Oper.wp
  rw [hm]
  simp only [Sem.run_bind, h1, Result.andThen_ok, Sem.run_pure, Oper.upon_value]
  exact hK v w' ok' lv' h2 h3

theorem trO_rep (R : Rel Γ s h a w ok lv) {x : Option Operand} {y : Option LA} (hx : trO Γ.N x = some y) : RepO w ok lv (y.map fun z => att h (evalA s z)) (x.map a.eval) := by
  cases x with
  | none => cases hx; trivial
  | some x =>
    simp only [trO] at hx
    cases hq : trA Γ.N x with
    | none => rw [hq] at hx; cases hx
    | some z => rw [hq] at hx; cases hx; exact R.eval hq

theorem all_one {l : List Value} (h : l.all Value.oneCell' = true) : ∀ u ∈ l, u.oneCell' = true := by simpa using h

theorem trParts_spec {P : Program} {N : Nat} {fs : Array Field} : ∀ (ps : List (Nat × Operand)) (lp : List (Nat × Nat × LA)), trParts P N fs ps = some lp →
    ps.length = lp.length ∧ ∀ (j : Nat) (p : Nat × Operand) (q : Nat × Nat × LA), ps[j]? = some p → lp[j]? = some q → ∃ f i, fs[p.1]? = some f ∧ P.info? f.type = some i ∧ q.1 = f.offset ∧ q.2.1 = i.size ∧ trA N p.2 = some q.2.2
  | [], lp, h => by simp [trParts] at h; subst h; exact ⟨rfl, fun j p q h => by simp at h⟩
  | (i, x) :: ps, lp, h => by
    simp only [trParts] at h
    split at h
    · rename_i f hf
      split at h
      · rename_i inf x' r h1 h2 h3
        simp at h; subst h
        obtain ⟨g1, g2⟩ := trParts_spec ps r h3
        refine ⟨by simp [g1], fun j p q hp hq => ?_⟩
        cases j with
        | zero => simp at hp hq; subst hp hq; exact ⟨f, inf, hf, h1, rfl, rfl, h2⟩
        | succ j => exact g2 j p q (by simpa using hp) (by simpa using hq)
      · cases h
    · cases h

theorem trElems_spec {N len : Nat} : ∀ (ps : List (Nat × Operand)) (lp : List (Nat × LA)), trElems N len ps = some lp →
    ps.length = lp.length ∧ ∀ (j : Nat) (p : Nat × Operand) (q : Nat × LA), ps[j]? = some p → lp[j]? = some q → p.1 = q.1 ∧ q.1 < len ∧ trA N p.2 = some q.2
  | [], lp, h => by simp [trElems] at h; subst h; exact ⟨rfl, fun j p q h => by simp at h⟩
  | (i, x) :: ps, lp, h => by
    simp only [trElems] at h
    split at h
    · rename_i hlt
      split at h
      · rename_i x' r h2 h3
        simp at h; subst h
        obtain ⟨g1, g2⟩ := trElems_spec ps r h3
        refine ⟨by simp [g1], fun j p q hp hq => ?_⟩
        cases j with
        | zero => simp at hp hq; subst hp hq; exact ⟨rfl, hlt, h2⟩
        | succ j => exact g2 j p q (by simpa using hp) (by simpa using hq)
      · cases h
    · cases h

theorem trElem_spec {P : Program} {t : TypeId} {e : TypeId} {i : TypeInfo} {z : Value} (h : trElem P t = some (e, i, z)) :
    P.underlying t = some (.slice e) ∧ P.info? e = some i ∧ i.zero = some z ∧ i.size = z.cells.size ∧ 0 < i.size ∧ ∀ u ∈ z.cells.toList, u.oneCell' = true := by
  unfold trElem at h
  split at h
  · split at h
    · split at h
      · split at h
        · rename_i _ e' h1 _ i' h2 _ z' h3 h4
          simp at h
          obtain ⟨rfl, rfl, rfl⟩ := h
          exact ⟨h1, h2, h3, h4.1, h4.2.1, all_one h4.2.2⟩
        · cases h
      · cases h
    · cases h
  · cases h

theorem trField_spec {P : Program} {t : TypeId} {j off n : Nat} {ag : Bool} (h : trField P t j = some (off, n, ag)) :
    ∃ fs f i d, P.underlying t = some (.struct fs) ∧ fs[j]? = some f ∧ P.info? f.type = some i ∧ P.underlying f.type = some d ∧ f.offset = off ∧ i.size = n ∧ i.size ≠ 0 ∧ ag = isAggD d := by
  unfold trField at h
  split at h
  · split at h
    · split at h
      · split at h
        · rename_i _ fs h1 _ f h2 _ _ i d h3 h4 h5
          simp at h
          obtain ⟨rfl, rfl, rfl⟩ := h
          exact ⟨fs, f, i, d, h1, h2, h3, h4, rfl, rfl, h5, rfl⟩
        · cases h
      · cases h
    · cases h
  · cases h

theorem mapM_get {α β : Type} {f : α → Option β} : ∀ {l : List α} {r : List β}, l.mapM f = some r → ∀ (j : Nat) (x : α), l[j]? = some x → r[j]? = f x
  | [], r, h, j, x, hx => by simp at hx
  | y :: l, r, h, j, x, hx => by
    simp only [List.mapM_cons, Option.bind_eq_bind, Option.pure_def] at h
    cases hy : f y with
    | none => rw [hy] at h; cases h
    | some z =>
      rw [hy] at h
      cases hl : l.mapM f with
      | none => rw [hl] at h; cases h
      | some r' =>
        rw [hl] at h
        simp at h; subst h
        cases j with
        | zero => simp at hx; subst hx; simp [hy]
        | succ j => simpa using mapM_get hl j x (by simpa using hx)

theorem trAs_eval (R : Rel Γ s h a w ok lv) {xs : List Operand} {ys : List LA} (hx : trAs Γ.N xs = some ys) : xs.length = ys.length ∧ ∀ (j : Nat) (x : Operand) (y : LA), xs[j]? = some x → ys[j]? = some y → RepS w ok lv (evalA s y) (a.eval x) := by
  unfold trAs at hx
  refine ⟨?_, fun j x y h1 h2 => ?_⟩
  · clear R
    induction xs generalizing ys with
    | nil => simp at hx; subst hx; rfl
    | cons x xs ih =>
      simp only [List.mapM_cons, Option.bind_eq_bind, Option.pure_def] at hx
      cases hy : trA Γ.N x with
      | none => rw [hy] at hx; cases hx
      | some z =>
        rw [hy] at hx
        cases hl : xs.mapM (trA Γ.N) with
        | none => rw [hl] at hx; cases hx
        | some r' => rw [hl] at hx; simp at hx; subst hx; simp [ih hl]
  · have := mapM_get hx j x h1
    rw [h2] at this
    exact R.eval this.symm

theorem array_of_list {α : Type} {a : Array α} {l : List α} (h : a.toList = l) : a = l.toArray := by rw [← h]

theorem builtin_ok (R : Rel Γ s h a w ok lv) {o : Oper} {c : Call} {b : Builtin} {L : LOp} (htr : trBuiltin Γ.P Γ.N b c.args.toList c.argTypes.toList = some L) (hop : o.op = .call c) (hc : c.callee = .builtin b) (d : Nat)
    {u : U} (hW : opW d (nextGen (h d)) (fun x => att h (evalA s x)) (· = u) L)
    {next : Act → World → Prop} {Q : Exit → Act → World → Prop} (hK : ∀ v w' ok' lv', Rel Γ s (hwr h u.wr) a w' ok' lv' → RepS w' ok' lv' u.val v → next (a.put o.dst v) w') : o.wp Γ.P a w next Q := by
  have hex : ∀ ts xs, c.argTypes.toList = ts → c.args.toList = xs → execOp a.eval o = Go.builtin b ts.toArray o.type (c.args.map fun | .const _ => true | _ => false) (xs.map a.eval).toArray := by
    intro ts xs h1 h2
    have e1 := array_of_list h1
    have e2 := array_of_list h2
    simp only [execOp, hop, resolve, hc, invoke, pure_bind]
    rw [e1]
    congr 1
    rw [e2]; simp
  unfold trBuiltin at htr
  split at htr
  · rename_i x t hx0 ht0
    split at htr
    · rename_i e ht
      cases hx : trA Γ.N x with
      | none => rw [hx] at htr; cases htr
      | some x' =>
        rw [hx] at htr; cases htr
        exact does_wp (by rw [hex _ _ ht0 hx0]; simp only [Go.builtin, List.map_cons, List.map_nil]) (len_does (ty := o.type) R ht (R.eval hx) hW) hK
    · rename_i ht
      cases hx : trA Γ.N x with
      | none => rw [hx] at htr; cases htr
      | some x' =>
        rw [hx] at htr; cases htr
        exact does_wp (by rw [hex _ _ ht0 hx0]; simp only [Go.builtin, List.map_cons, List.map_nil]) (lenS_does (ty := o.type) R ht (R.eval hx) hW) hK
    · cases htr
  · rename_i x y t tx hx0 ht0
    split at htr
    · rename_i e ht
      split at htr
      · rename_i i hi
        split at htr
        · rename_i z hz
          split at htr
          · rename_i hsz
            split at htr
            · rename_i e' htx
              split at htr
              · rename_i x' y' h1 h2
                cases htr
                simp only [opW] at hW
                obtain ⟨hf, hW⟩ := hW
                cases hro : rowsOf (att h (evalA s y')) with
                | none => rw [hro] at hW; exact hW.elim
                | some ys =>
                  rw [hro] at hW
                  obtain ⟨news, g1, g2, g3⟩ := rowsOf_src R (R.eval h2) hro hf
                  exact does_wp (by rw [hex _ _ ht0 hx0]; simp only [Go.builtin, List.map_cons, List.map_nil]) (app_does (ty := o.type) R ht htx (.inl ⟨e', rfl⟩) hi hz hsz.1 hsz.2 (R.eval h1) g1 g2 g3 d hW) hK
              · cases htr
            · rename_i htx
              split at htr
              · rename_i h1b
                split at htr
                · rename_i x' y' h1 h2
                  cases htr
                  simp only [opW, att] at hW
                  have hy := R.eval h2
                  split at hW
                  · rename_i st hq
                    rw [hq] at hy
                    have e := hy.dv
                    have h1s := h1b.1
                    have h1y := h1b.2
                    have hsrc := appStr_src Γ.P w st
                    have hst := bytes_stand w ok st
                    rw [← e] at hsrc
                    have hA := app_does (ty := o.type) (u := u) R ht htx (.inr rfl) hi hz hsz.1 hsz.2 (R.eval h1) (yv := a.eval y) (by rw [h1s]; exact hsrc) hst (by rw [h1s]; simp [bytesD]) d (by rw [h1s, h1y]; exact hW)
                    exact does_wp (by rw [hex _ _ ht0 hx0]; simp only [Go.builtin, List.map_cons, List.map_nil]) hA hK
                  · exact hW.elim
                · cases htr
              · cases htr
            · cases htr
          · cases htr
        · cases htr
      · cases htr
    · cases htr
  · rename_i x y _ hx0
    split at htr
    · rename_i x' y' h1 h2
      cases htr
      refine does_wp ?_ (mm_does R (isMax := false) (R.eval h1) (R.eval h2) hW) hK
      rw [hex _ _ rfl hx0]; simp [Go.builtin, Builtin.min_]
    · cases htr
  · rename_i x y _ hx0
    split at htr
    · rename_i x' y' h1 h2
      cases htr
      refine does_wp ?_ (mm_does R (isMax := true) (R.eval h1) (R.eval h2) hW) hK
      rw [hex _ _ rfl hx0]; simp [Go.builtin, Builtin.max_]
    · cases htr
  · rename_i x hx0
    cases hx : trA Γ.N x with
    | none => rw [hx] at htr; cases htr
    | some x' =>
      rw [hx] at htr; cases htr
      have hv := R.eval hx
      exact does_wp (by rw [hex _ _ rfl hx0]; simp only [Go.builtin, List.map_cons, List.map_nil]) (real_does (ts := c.argTypes.toList.toArray) (ty := o.type) R hv hW) hK
  · rename_i x hx0
    cases hx : trA Γ.N x with
    | none => rw [hx] at htr; cases htr
    | some x' =>
      rw [hx] at htr; cases htr
      have hv := R.eval hx
      exact does_wp (by rw [hex _ _ rfl hx0]; simp only [Go.builtin, List.map_cons, List.map_nil]) (imag_does (ts := c.argTypes.toList.toArray) (ty := o.type) R hv hW) hK
  · rename_i x y hx0
    split at htr
    · rename_i x' y' h1 h2
      cases htr
      have hv := R.eval h1
      have hv2 := R.eval h2
      exact does_wp (by rw [hex _ _ rfl hx0]; simp only [Go.builtin, List.map_cons, List.map_nil]) (complex_does (ts := c.argTypes.toList.toArray) (ty := o.type) R hv hv2 hW) hK
    · cases htr
  · cases htr

/-- **Each operation does what part C says.** -/
theorem op_ok (R : Rel Γ s h a w ok lv) {o : Oper} {L : LOp} (htr : trOp Γ.P Γ.N o = some L) (d : Nat) {u : U} (hW : opW d (nextGen (h d)) (fun x => att h (evalA s x)) (· = u) L)
    {next : Act → World → Prop} {Q : Exit → Act → World → Prop} (hK : ∀ v w' ok' lv', Rel Γ s (hwr h u.wr) a w' ok' lv' → RepS w' ok' lv' u.val v → next (a.put o.dst v) w') : o.wp Γ.P a w next Q := by
  unfold trOp at htr
  split at htr
  case h_1 x hop =>
    cases hx : trA Γ.N x with
    | none => rw [hx] at htr; cases htr
    | some x' =>
      rw [hx] at htr; cases htr
      simp only [opW] at hW; subst hW
      have hx' := R.eval hx
      unfold Oper.wp
      simp only [execOp, hop, Sem.run_pure, Oper.upon_value]
      exact hK _ w ok lv R hx'
  case h_2 x hop =>
    cases hx : trA Γ.N x with
    | none => rw [hx] at htr; cases htr
    | some x' =>
      rw [hx] at htr; cases htr
      simp only [opW] at hW; subst hW
      have hx' := R.eval hx
      unfold Oper.wp
      simp only [execOp, hop, Sem.run_pure, Oper.upon_value]
      exact hK _ w ok lv R hx'
  case h_3 c x y hop =>
    split at htr
    · rename_i c' x' y' h1 h2 h3
      cases htr
      have hc := R.eval h1
      have hx := R.eval h2
      have hy := R.eval h3
      simp only [opW, pickW, att] at hW
      split at hW
      · rename_i b hb
        rw [hb] at hc
        have e := hc.dv
        unfold Oper.wp
        cases b
        · have hu := hW.2 rfl
          subst hu
          simp only [execOp, hop, e, asBool, Sem.run_bind, Sem.run_pure, Result.andThen_ok, Oper.upon_value, Bool.false_eq_true, if_false]
          exact hK _ w ok lv R hy
        · have hu := hW.1 rfl
          subst hu
          simp only [execOp, hop, e, asBool, Sem.run_bind, Sem.run_pure, Result.andThen_ok, Oper.upon_value, if_true]
          exact hK _ w ok lv R hx
      · exact hW.elim
    · cases htr
  case h_4 t hop =>
    split at htr
    · rename_i i hi
      split at htr
      · rename_i z hz
        split at htr
        · rename_i h1
          cases htr
          simp only [opW] at hW
          subst hW
          exact does_wp (by simp [execOp, hop]) (alloc_does R hi hz (all_one h1) d) hK
        · cases htr
      · cases htr
    · cases htr
  case h_5 t x hop =>
    split at htr
    · rename_i i x' hi h1
      cases htr
      simp only [opW] at hW
      obtain ⟨_, h2, hu⟩ := hW
      subst hu
      exact does_wp (by simp [execOp, hop]) (box_does R (t := t) (R.eval h1) h2 d) hK
    · cases htr
  case h_6 t parts hop =>
    split at htr
    · rename_i fs it ht hit
      split at htr
      · rename_i z places ps hz hpl hps
        split at htr
        · rename_i h1
          cases htr
          simp only [opW] at hW
          split at hW
          · rename_i cs hb
            subst hW
            obtain ⟨g1, g2⟩ := trParts_spec _ _ hps
            refine does_wp (by simp [execOp, hop]) (build_does R ht hit hz hpl (all_one h1) (parts := parts.map fun p => (p.1, a.eval p.2)) hb (by simp [← g1]) (fun j p q hp hq => ?_)) hK
            rw [Array.toList_map, List.getElem?_map] at hp
            cases hpp : parts.toList[j]? with
            | none => rw [hpp] at hp; cases hp
            | some p0 =>
              rw [hpp] at hp; simp at hp; subst hp
              obtain ⟨f, i, a1, a2, a3, a4, a5⟩ := g2 j p0 q hpp hq
              refine ⟨?_, R.eval a5⟩
              rw [mapM_get hpl p0.1 f (by simpa using a1), a2, a3, a4]; rfl
          · exact hW.elim
        · cases htr
      · cases htr
    · cases htr
  case h_7 t len parts hop =>
    split at htr
    · rename_i e i z ps hel hps
      split at htr
      · rename_i hn
        cases htr
        obtain ⟨e1, e2, e3, e4, e5, e6⟩ := trElem_spec hel
        simp only [opW] at hW
        split at hW
        · rename_i rows ws hb
          obtain ⟨hnd, hd, hu⟩ := hW
          subst hu
          obtain ⟨g1, g2⟩ := trElems_spec _ _ hps
          refine does_wp (by simp [execOp, hop]) (bslice_does R e1 e2 e3 e4 e5 e6 hn (parts := parts.map fun p => (p.1, a.eval p.2)) hb (by simp [← g1]) (fun j p q hp hq => ?_) hnd d hd) hK
          rw [Array.toList_map, List.getElem?_map] at hp
          cases hpp : parts.toList[j]? with
          | none => rw [hpp] at hp; cases hp
          | some p0 =>
            rw [hpp] at hp; simp at hp; subst hp
            obtain ⟨a1, a2, a3⟩ := g2 j p0 q hpp hq
            exact ⟨a1, a2, R.eval a3, rfl⟩
        · exact hW.elim
      · cases htr
    · cases htr
  case h_8 t x hop =>
    split at htr
    · rename_i i td a' hi hd h1
      cases htr
      exact does_wp (by simp [execOp, hop]) (load_does R hi rfl hd rfl (R.eval h1) hW) hK
    · cases htr
  case h_9 t y x hop =>
    split at htr
    · rename_i i a' x' hi h1 h2
      cases htr
      obtain ⟨w', ok', lv', g1, g2, g3⟩ := store_does R hi rfl (R.eval h1) (R.eval h2) hW
      unfold Oper.wp
      simp only [execOp, hop, Sem.run_bind, g1, Result.andThen_ok, Sem.run_pure, Oper.upon_skip]
      exact hK undef w' ok' lv' g2 (by rw [g3]; exact .any _)
    · cases htr
  case h_10 x hop =>
    cases hx : trA Γ.N x with
    | none => rw [hx] at htr; cases htr
    | some x' =>
      rw [hx] at htr; cases htr
      have hx' := R.eval hx
      obtain ⟨hu, hnn⟩ := nilck_does R hx' hW
      subst hu
      obtain ⟨ad, he⟩ := hnn
      unfold Oper.wp
      rw [he] at hx'
      simp only [execOp, hop, he, Sem.run_pure, Oper.upon_value]
      exact hK _ w ok lv R hx'
  case h_11 op t x y ty hop =>
    split at htr
    · rename_i x' y' h1 h2
      have hx := R.eval h1
      have hy := R.eval h2
      unfold trBin at htr
      split at htr
      · cases htr
        exact does_wp (by simp [execOp, hop]) (bin_does R (t := t) (x := x) (y := y) hx hy hW) hK
      · cases htr
        exact does_wp (by simp [execOp, hop]) (bin_does R (t := t) (x := x) (y := y) hx hy hW) hK
      · cases htr
        exact does_wp (by simp [execOp, hop]) (bin_does R (t := t) (x := x) (y := y) hx hy hW) hK
      · cases htr
        exact does_wp (by simp [execOp, hop]) (bin_does R (t := t) (x := x) (y := y) hx hy hW) hK
      · rename_i ht
        split at htr
        · rename_i he
          cases htr; subst he
          exact does_wp (by simp [execOp, hop]) (eqb_does R (x := x) (y := y) (neg := false) ht rfl hx hy hW) hK
        · split at htr
          · rename_i he
            cases htr; subst he
            exact does_wp (by simp [execOp, hop]) (eqb_does R (x := x) (y := y) (neg := true) ht rfl hx hy hW) hK
          · cases htr
      · rename_i e ht
        split at htr
        · rename_i he
          cases htr; subst he
          exact does_wp (by simp [execOp, hop]) (eqp_does R (x := x) (y := y) (neg := false) ht rfl hx hy hW) hK
        · split at htr
          · rename_i he
            cases htr; subst he
            exact does_wp (by simp [execOp, hop]) (eqp_does R (x := x) (y := y) (neg := true) ht rfl hx hy hW) hK
          · cases htr
      · rename_i e ht
        split at htr
        · split at htr
          · rename_i he
            cases htr; subst he
            exact does_wp (by simp [execOp, hop]) (eqn_does R (x := x) (y := y) (neg := false) ht rfl hx hy.dv hW) hK
          · split at htr
            · rename_i he
              cases htr; subst he
              exact does_wp (by simp [execOp, hop]) (eqn_does R (x := x) (y := y) (neg := true) ht rfl hx hy.dv hW) hK
            · cases htr
        · cases htr
      · rename_i fs ht
        split at htr
        · rename_i ks hks
          split at htr
          · rename_i hst
            split at htr
            · rename_i he
              cases htr; subst he
              exact does_wp (by simp [execOp, hop]) (eqs_does R (x := x) (y := y) (neg := false) ht hks hst.1 hst.2 rfl hx hy hW) hK
            · split at htr
              · rename_i he
                cases htr; subst he
                exact does_wp (by simp [execOp, hop]) (eqs_does R (x := x) (y := y) (neg := true) ht hks hst.1 hst.2 rfl hx hy hW) hK
              · cases htr
          · cases htr
        · cases htr
      · cases htr
    · cases htr
  case h_12 op t x hop =>
    cases hx : trA Γ.N x with
    | none => rw [hx] at htr; cases htr
    | some x' =>
      rw [hx] at htr; cases htr
      exact does_wp (by simp [execOp, hop]) (un_does R (R.eval hx) hW) hK
  case h_13 src dst x hop =>
    split at htr
    · rename_i x' h1
      have hx := R.eval h1
      unfold trConv at htr
      split at htr
      · rename_i k1 k hs hd
        cases htr
        exact does_wp (by simp [execOp, hop]) (toInt_does R ⟨_, hs⟩ hd hx hW) hK
      · rename_i k1 k hs hd
        cases htr
        exact does_wp (by simp [execOp, hop]) (toInt_does R ⟨_, hs⟩ hd hx hW) hK
      · rename_i k1 k hs hd
        cases htr
        exact does_wp (by simp [execOp, hop]) (toF_does R ⟨_, hs⟩ hd hx hW) hK
      · rename_i e hs hd
        split at htr
        · rename_i he
          cases htr
          have he' : Γ.P.underlying e = some (.int .u8) := he
          simp only [opW, att] at hW
          split at hW
          · rename_i st hq
            obtain ⟨_, hu⟩ := hW
            subst hu
            rw [hq] at hx
            exact does_wp (by simp [execOp, hop]) (toBytes_does R hs hd he' hx d) hK
          · exact hW.elim
        · cases htr
      · rename_i e hs hd
        split at htr
        · rename_i he
          cases htr
          have he' : Γ.P.underlying e = some (.int .u8) := he
          exact does_wp (by simp [execOp, hop]) (toStr_does R hs hd he' hx hW) hK
        · cases htr
      · rename_i e _ hs hd
        split at htr
        · rename_i he0
          subst he0
          split at htr
          · rename_i he
            cases htr
            have he' : Γ.P.underlying e = some (.int .u8) := he
            exact does_wp (by simp [execOp, hop]) (mark_does R hs he' hx hW) hK
          · cases htr
        · cases htr
      · cases htr
    · cases htr
  case h_14 t l c hop =>
    split at htr
    · rename_i e i z l' c' hel h1 h2
      cases htr
      obtain ⟨e1, e2, e3, e4, e5, e6⟩ := trElem_spec hel
      exact does_wp (by simp [execOp, hop]) (mksl_does R e1 e2 e3 e4 e5 e6 (R.eval h1) (R.eval h2) d hW) hK
    · cases htr
  case h_15 t x lo hi mx hop =>
    split at htr
    · rename_i e m ht
      split at htr
      · rename_i i x' k n k' n' hi0 h1 h2 h3
        split at htr
        · rename_i hn
          obtain ⟨rfl, rfl⟩ := hn
          cases htr
          have e3 : a.eval m = .int k' 0 := (R.eval h3).dv
          cases hi with
          | none => simp [trO] at h2
          | some hi =>
            have h2' : trA Γ.N hi = some (.c (.int k 0)) := by
              simp only [trO] at h2
              cases hq : trA Γ.N hi with
              | none => rw [hq] at h2; cases h2
              | some z => rw [hq] at h2; cases h2; rfl
            have e2 : a.eval hi = .int k 0 := (R.eval h2').dv
            exact does_wp (by simp [execOp, hop, e2, e3]) (slc0_does (k := k) (k' := k') R ht hi0 (R.eval h1) d hW) hK
        · cases htr
      · cases htr
    · rename_i e ht
      split at htr
      · rename_i i x' lo' hi' hi0 h1 h2 h3
        cases htr
        exact does_wp (by simp [execOp, hop]) (slc_does R ht hi0 rfl (R.eval h1) (trO_rep R h2) (trO_rep R h3) hW) hK
      · cases htr
    · rename_i ht
      split at htr
      · rename_i x' lo' hi' h1 h2 h3
        cases htr
        exact does_wp (by simp [execOp, hop]) (slcs_does R ht (R.eval h1) (trO_rep R h2) (trO_rep R h3) hW) hK
      · cases htr
    · cases htr
  case h_16 st x f hop =>
    split at htr
    · rename_i off n ag x' hf h1
      cases htr
      obtain ⟨fs, fl, i, td, g1, g2, g3, g4, g5, g6, g7, g8⟩ := trField_spec hf
      exact does_wp (by simp [execOp, hop]) (fad_does R g1 g2 g5 g3 g7 (R.eval h1) hW) hK
    · cases htr
  case h_17 st x f hop =>
    split at htr
    · rename_i off n ag x' hf h1
      cases htr
      obtain ⟨fs, fl, i, td, g1, g2, g3, g4, g5, g6, g7, g8⟩ := trField_spec hf
      exact does_wp (by simp [execOp, hop]) (fld_does R g1 g2 g5 g3 g6 g4 g8 (R.eval h1) hW) hK
    · cases htr
  case h_18 t x i hop =>
    split at htr
    · rename_i e ht
      split at htr
      · rename_i inf x' i' h0 h1 h2
        cases htr
        exact does_wp (by simp [execOp, hop]) (iad_does R ht h0 rfl (R.eval h1) (R.eval h2) hW) hK
      · cases htr
    · cases htr
  case h_19 t x i hop =>
    split at htr
    · rename_i ht
      split at htr
      · rename_i x' i' h1 h2
        cases htr
        exact does_wp (by simp [execOp, hop]) (ixs_does R ht (R.eval h1) (R.eval h2) hW) hK
      · cases htr
    · cases htr
  case h_20 x i hop =>
    cases hx : trA Γ.N x with
    | none => rw [hx] at htr; cases htr
    | some x' =>
      rw [hx] at htr; cases htr
      exact does_wp (by simp [execOp, hop]) (ext_does R (R.eval hx) hW) hK
  case h_21 c hop =>
    split at htr
    · rename_i f hc
      cases hx : trAs Γ.N c.args.toList with
      | none => rw [hx] at htr; cases htr
      | some as => rw [hx] at htr; cases htr; exact hW.elim
    · split at htr
      · cases htr; exact hW.elim
      · cases htr
    · rename_i b hc
      exact builtin_ok R htr hop hc d hW hK
    · cases htr
  case h_22 f fi cs hop =>
    split at htr
    · rename_i hfi
      cases hx : trAs Γ.N cs.toList with
      | none => rw [hx] at htr; cases htr
      | some as =>
        rw [hx] at htr; cases htr
        simp only [opW] at hW; subst hW
        obtain ⟨g1, g2⟩ := trAs_eval R hx
        have hfi' : fi = #[] := Array.eq_empty_of_size_eq_zero hfi
        subst hfi'
        unfold Oper.wp
        simp only [execOp, hop, Instr.makeFunc, Sem.run_pure, Sem.run_bind, Result.andThen_ok, Oper.upon_value]
        refine hK _ w ok lv R ?_
        have hv : (cs.map a.eval) = (cs.toList.map a.eval).toArray := by apply Array.ext'; simp
        show RepS w ok lv (.clo f (as.map fun x => (att h (evalA s x)).1)) (.func (.func f) (Array.map a.eval #[]) (cs.map a.eval))
        rw [hv, Array.map_empty]
        refine .clo f (as.map fun x => (att h (evalA s x)).1) (cs.toList.map a.eval) (by rw [List.length_map, List.length_map]; exact g1) (fun k y u hk hu => ?_)
        rw [List.getElem?_map] at hk hu
        cases hq : as[k]? with
        | none => rw [hq] at hk; cases hk
        | some z =>
          cases hq2 : cs.toList[k]? with
          | none => rw [hq2] at hu; cases hu
          | some x =>
            rw [hq] at hk; rw [hq2] at hu
            obtain rfl := Option.some.inj hk
            obtain rfl := Option.some.inj hu
            exact g2 k x z hq2 hq
    · cases htr
  case h_23 => cases htr
end
end Go.Eng
