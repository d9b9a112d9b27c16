/-
  The engine, part P: whole bodies, what is to be shown of them on written states, and that it suffices.
-/
import Derived.Test.YthbonnlhoaeflaaEngO
set_option linter.unusedVariables false
set_option linter.unusedSimpArgs false
namespace Go.Eng
open Go.RowKit Go.Lib

/-- What is told anew behind a statement: no memory at all, told as a row of one's own. -/
inductive Gh where
  | slot (t id sz : Nat)
  | cell (j k id sz : Nat)

def isNil : S → Bool
  | .d (.v (.slice none 0 0)) => true
  | _ => false
theorem isNil_eq {x : S} (h : isNil x = true) : x = .d (.v (.slice none 0 0)) := by
  unfold isNil at h
  split at h
  · rfl
  · cases h

def St.gh (st : St) : Gh → St
  | .slot t id sz => if 0 < sz ∧ isNil (get st.s t) = true ∧ (hget st.h id).isNone = true then ⟨(t, .view id 0 0 0) :: st.s, hset st.h id ⟨0, .arr sz []⟩⟩ else st
  | .cell j k id sz => match hget st.h j with
    | some ⟨g, .box cs⟩ => if 0 < sz ∧ isNil (cs.getD k .any) = true ∧ (hget st.h id).isNone = true then ⟨st.s, hset (hset st.h j ⟨g, .box (cs.set k (.view id 0 0 0))⟩) id ⟨0, .arr sz []⟩⟩ else st
    | _ => st

theorem adopt_core {Γ : Ctx} {s s' : Nat → S} {h h0 : Nat → Option Ob} {a : Act} {w : World} {ok : Nat → Prop} {lv : Nat → Option Reg} (R : Rel Γ s h a w ok lv) (id sz : Nat) (hsz : 0 < sz) (hid : h id = none)
    (hs : ∀ t v, RepS w ok lv (s t) v → RepS w ok (up lv id (some ⟨0, none, 0, sz, 0⟩)) (s' t) v)
    (hh : ∀ j, (h0 j = none ↔ h j = none) ∧ ∀ ob, h0 j = some ob → ∃ ob', h j = some ob' ∧ ob.gen = ob'.gen ∧ ob.body.live = ob'.body.live ∧ ∀ r, BodyAt w ok lv r ob'.body → BodyAt w ok (up lv id (some ⟨0, none, 0, sz, 0⟩)) r ob.body) :
    Rel Γ s' (up h0 id (some ⟨0, .arr sz []⟩)) a w ok (up lv id (some ⟨0, none, 0, sz, 0⟩)) := by
  refine ⟨R.tm, R.df, fun t v hv => hs t v (R.sl t v hv), ?_, ?_, ?_, R.okl, ?_, R.fr, R.pv, ?_, ?_, ?_⟩
  · intro j ob hj
    by_cases e : j = id
    · subst e; rw [up_same] at hj; cases hj
      exact ⟨_, up_same _ _ _, rfl, rfl, hsz, by simp, rfl⟩
    · rw [up_ne _ _ _ e] at hj
      obtain ⟨ob', h1, h2, _, h4⟩ := (hh j).2 ob hj
      obtain ⟨r, a1, a2, a3⟩ := R.hp j ob' h1
      exact ⟨r, by rw [up_ne _ _ _ e]; exact a1, a2.trans h2.symm, h4 r a3⟩
  · intro j hj
    by_cases e : j = id
    · subst e; rw [up_same] at hj; cases hj
    · rw [up_ne _ _ _ e] at hj ⊢; exact R.hn j ((hh j).1.1 hj)
  · intro i j oi oj ri rj b hi hj hli hlj hri hrj hbi hbj
    by_cases ei : i = id
    · subst ei; rw [up_same] at hri; cases hri; cases hbi
    · by_cases ej : j = id
      · subst ej; rw [up_same] at hrj; cases hrj; cases hbj
      · rw [up_ne _ _ _ ei] at hi hri; rw [up_ne _ _ _ ej] at hj hrj
        obtain ⟨pi, p1, _, p3, _⟩ := (hh i).2 oi hi
        obtain ⟨pj, q1, _, q3, _⟩ := (hh j).2 oj hj
        exact R.inj i j pi pj ri rj b p1 q1 (p3 ▸ hli) (q3 ▸ hlj) hri hrj hbi hbj
  · intro b j ob r hb hj hlv hr hrb
    by_cases e : j = id
    · subst e; rw [up_same] at hr; cases hr; cases hrb
    · rw [up_ne _ _ _ e] at hj hr
      obtain ⟨pj, q1, _, q3, _⟩ := (hh j).2 ob hj
      exact R.okn b j pj r hb q1 (q3 ▸ hlv) hr hrb
  · intro j ob r b hj hlv hr hrb
    by_cases e : j = id
    · subst e; rw [up_same] at hr; cases hr; cases hrb
    · rw [up_ne _ _ _ e] at hj hr
      obtain ⟨pj, q1, _, q3, _⟩ := (hh j).2 ob hj
      exact R.ph j pj r b q1 (q3 ▸ hlv) hr hrb
  · intro j r0 r h1 h2 h3
    by_cases e : j = id
    · subst e; exact absurd hid (R.pl j r0 h1)
    · rw [up_ne _ _ _ e] at h2; exact R.pn j r0 r h1 h2 h3
  · intro j r0 h1
    by_cases e : j = id
    · subst e; rw [up_same]; simp
    · rw [up_ne _ _ _ e]; exact fun hn => R.pl j r0 h1 ((hh j).1.1 hn)

theorem gh_rel {st : St} (g : Gh) {Γ : Ctx} {a : Act} {w : World} {ok : Nat → Prop} {lv : Nat → Option Reg} (R : Rel Γ (get st.s) (hget st.h) a w ok lv) : ∃ lv', Rel Γ (get (st.gh g).s) (hget (st.gh g).h) a w ok lv' := by
  have laterOf : ∀ id sz, hget st.h id = none → Later lv (up lv id (some ⟨0, none, 0, sz, 0⟩)) := by
    intro id sz hid i r hi
    have hln := R.hn id hid
    have : i ≠ id := by intro e; subst e; rw [hln] at hi; cases hi
    exact ⟨r, by rw [up_ne _ _ _ this]; exact hi, .inl rfl⟩
  cases g with
  | slot t id sz =>
    simp only [St.gh]
    split
    · rename_i hc
      obtain ⟨hsz, hn, hid⟩ := hc
      have hid' : hget st.h id = none := by simpa using hid
      have ht := isNil_eq hn
      have hl := laterOf id sz hid'
      refine ⟨up lv id (some ⟨0, none, 0, sz, 0⟩), ?_⟩
      simp only
      rw [get_cons, hget_hset]
      refine adopt_core R id sz hsz hid' (fun j v hv => ?_) (fun j => ⟨Iff.rfl, fun ob ho => ⟨ob, ho, rfl, rfl, fun r hB => hB.mono (fun _ _ => rfl) (fun _ h => h) hl (fun _ _ _ => rfl)⟩⟩)
      by_cases e : j = t
      · subst e
        rw [up_same]
        rw [ht] at hv
        have := hv.dv
        subst this
        exact .view _ _ _ _ _ _ rfl (up_same _ _ _) (Nat.le_refl _) (fun _ => ⟨rfl, _, rfl⟩)
      · rw [up_ne _ _ _ e]
        exact hv.mono (fun _ _ => rfl) (fun _ h => h) hl
    · exact ⟨lv, R⟩
  | cell j k id sz =>
    simp only [St.gh]
    split
    · rename_i g cs hj
      split
      · rename_i hc
        obtain ⟨hsz, hn, hid⟩ := hc
        have hid' : hget st.h id = none := by simpa using hid
        have hk := isNil_eq hn
        have hl := laterOf id sz hid'
        refine ⟨up lv id (some ⟨0, none, 0, sz, 0⟩), ?_⟩
        simp only
        rw [hget_hset, hget_hset]
        refine adopt_core (h0 := up (hget st.h) j (some ⟨g, .box (cs.set k (.view id 0 0 0))⟩)) R id sz hsz hid' (fun j v hv => hv.mono (fun _ _ => rfl) (fun _ h => h) hl) (fun i => ?_)
        by_cases e : i = j
        · subst e
          rw [up_same]
          refine ⟨by simp [hj], fun ob ho => ?_⟩
          cases ho
          refine ⟨_, hj, rfl, rfl, fun r hB => ?_⟩
          obtain ⟨h1, b, h2, c, e, fz, i1, i2, i3, i4, i5⟩ := hB
          refine ⟨by simpa using h1, b, h2, c, e, fz, i1, i2, i3, by simpa using i4, fun q y hq => ?_⟩
          by_cases eq : k = q
          · subst eq
            have hlt : k < cs.length := by
              have := (List.getElem?_eq_some_iff.1 hq).1
              simpa using this
            have hy : y = .view id 0 0 0 := by simpa [hlt] using hq.symm
            subst hy
            have hck : cs[k]? = some (.d (.v (.slice none 0 0))) := by
              rw [List.getElem?_eq_getElem hlt]
              rw [List.getD_eq_getElem?_getD, List.getElem?_eq_getElem hlt] at hk
              simpa using hk
            obtain ⟨u, u1, u2, u3⟩ := i5 k _ hck
            have := u3.dv
            subst this
            exact ⟨_, u1, rfl, .view _ _ _ _ _ _ rfl (up_same _ _ _) (Nat.le_refl _) (fun _ => ⟨rfl, _, rfl⟩)⟩
          · rw [List.getElem?_set_ne eq] at hq
            obtain ⟨u, u1, u2, u3⟩ := i5 q y hq
            exact ⟨u, u1, u2, u3.mono (fun _ _ => rfl) (fun _ h => h) hl⟩
        · rw [up_ne _ _ _ e]
          exact ⟨Iff.rfl, fun ob ho => ⟨ob, ho, rfl, rfl, fun r hB => hB.mono (fun _ _ => rfl) (fun _ h => h) hl (fun _ _ _ => rfl)⟩⟩
      · exact ⟨lv, R⟩
    · exact ⟨lv, R⟩

def St.ghs (st : St) : List Gh → St
  | [] => st
  | g :: r => (st.gh g).ghs r

theorem ghs_rel : ∀ (l : List Gh) {st : St} {Γ : Ctx} {a : Act} {w : World} {ok : Nat → Prop} {lv : Nat → Option Reg}, Rel Γ (get st.s) (hget st.h) a w ok lv → ∃ lv', Rel Γ (get (st.ghs l).s) (hget (st.ghs l).h) a w ok lv'
  | [], _, _, _, _, _, lv, R => ⟨lv, R⟩
  | g :: r, _, _, _, _, _, _, R => by
    obtain ⟨lv1, R1⟩ := gh_rel g R
    exact ghs_rel r R1

abbrev Kp := List Nat × List Gh

/-- A body, told without types. -/
inductive LC where
  | skip
  | reg (draw : Bool) (ops : List (LI × List Nat)) (keep : Option Kp)
  | seq (a b : LC)
  | cond (c : LA) (a b : LC)
  | block (id : Nat) (b : LC)
  | loop (b : LC)
  | exit (id : Nat)
  | scope (lab : Nat) (b rest : LC)
  | label
  | goto (l : Nat)
  | ret

def dirB (ops : Array Oper) : Bool := (List.range ops.size).all fun j => match ops[j]? with
  | some o => o.after.toList.all fun e => !Region.binds .any e || decide (e.on < j)
  | none => true

def bitB (B : Array Nat) (i j : Nat) : Bool := (B.getD j 0).testBit i

def slotsB (B : Array Nat) (lis : List LI) : Bool := (List.range lis.length).all fun i => (List.range lis.length).all fun j => decide (i = j) || (match lis[i]?, lis[j]? with
  | some p, some q => (match p.dst with
    | some t => !(q.slots.contains t || q.dst == some t) || bitB B i j || bitB B j i
    | none => true)
  | _, _ => true)

/-- It changes no row. -/
def LOp.pure : LOp → Bool
  | .mv _ | .pick _ _ _ | .build _ _ | .load _ _ _ | .nilck _ | .bin _ _ _ | .eqb _ _ _ | .eqp _ _ _ | .eqn _ _ | .eqs _ _ _ _ | .un _ _ | .toInt _ _ | .toStr _ | .slc _ _ _ _ | .slcs _ _ _ | .fad _ _ | .fld _ _ _ _ | .iad _ _ _ | .ixs _ _ | .ext _ _ | .len _ | .lenS _ | .mm _ _ _ => true
  | _ => false

def pureAt (lis : List LI) (i : Nat) : Bool := match lis[i]? with
  | some li => li.op.pure
  | none => false

def unsOf (B : Array Nat) (lis : List LI) : List (List Nat) := (List.range lis.length).map fun j => (List.range j).filter fun i => !bitB B i j && !(pureAt lis i && pureAt lis j)

theorem boundsW_any {n : Nat} {lo hi : Option A} {K : Nat → Nat → Prop} (h : boundsW n lo hi K) : ∃ l u, K l u := by
  obtain ⟨l, u, _, _, _, h⟩ := boundsW_lin h
  exact ⟨l, u, h⟩

theorem pure_wr {d g : Nat} {ev : LA → A} {L : LOp} {u : U} (hp : L.pure = true) (h : opW d g ev (· = u) L) : u.wr = [] := by
  have tk : ∀ {n ag cs}, takeW n ag cs (· = u) → u.wr = [] := by
    intro n ag cs h
    unfold takeW at h
    split at h
    · rw [← h.2]
    · rw [← h]
    · exact h.elim
  cases L <;> first | (cases hp; done) | skip
  case mv => simp only [opW] at h; rw [← h]
  case pick =>
    simp only [opW, pickW] at h
    split at h
    · rename_i t _
      cases t
      · rw [← h.2 rfl]
      · rw [← h.1 rfl]
    · exact h.elim
  case build =>
    simp only [opW] at h
    split at h
    · rw [← h]
    · exact h.elim
  case load =>
    simp only [opW, loadW] at h
    split at h
    · exact tk h
    · exact tk h.2
    · rename_i row _ _ _ rows _
      exact tk (h.2.2 rows[row] (by simp [h.2.1]))
    · exact h.elim
  case nilck =>
    simp only [opW, nilckW] at h
    split at h <;> first | (rw [← h.2]; done) | (rw [← h]; done) | exact h.elim
  case bin =>
    simp only [opW, binOpW] at h
    split at h
    · obtain ⟨v, _, h2⟩ := binW_lin h
      rw [← h2]
    · exact h.elim
  case eqb =>
    simp only [opW, eqbW] at h
    split at h <;> first | (rw [← h]; done) | exact h.elim
  case eqp =>
    simp only [opW, eqpW] at h
    split at h <;> first | (rw [← h.2]; done) | (rw [← h]; done) | exact h.elim
  case eqn =>
    simp only [opW, eqnW] at h
    split at h <;> first | (rw [← h]; done) | exact h.elim
  case eqs =>
    simp only [opW, eqsW] at h
    split at h
    · split at h <;> first | (rw [← h]; done) | exact h.elim
    · exact h.elim
  case un =>
    simp only [opW, unOpW] at h
    split at h
    · obtain ⟨v, _, h2⟩ := unW_lin h
      rw [← h2]
    · exact h.elim
  case toInt =>
    simp only [opW, toIntW] at h
    split at h
    · rw [← h]
    · split at h
      · rw [← h.2.2]
      · exact h.elim
    · exact h.elim
  case toStr =>
    simp only [opW, toStrW] at h
    split at h
    · rw [← h.2.2]
    · exact h.elim
  case slc =>
    simp only [opW, slcW] at h
    split at h
    · obtain ⟨_, _, h2⟩ := boundsW_any h.2; rw [← h2]
    · obtain ⟨_, _, h2⟩ := boundsW_any h; rw [← h2]
    · obtain ⟨_, _, h2⟩ := boundsW_any h.2.2; rw [← h2]
    · exact h.elim
  case slcs =>
    simp only [opW, slcsW] at h
    split at h
    · obtain ⟨_, _, h2⟩ := boundsW_any h; rw [← h2]
    · exact h.elim
  case fad =>
    simp only [opW, fadW] at h
    split at h <;> first | (rw [← h.2]; done) | (rw [← h]; done) | exact h.elim
  case fld =>
    simp only [opW, fldW] at h
    split at h
    · rw [← h.2]
    · split at h <;> first | (rw [← h]; done) | exact h.elim
    · exact h.elim
  case iad =>
    simp only [opW, iadW] at h
    split at h
    · rename_i rows _ _ n _ _ _
      obtain ⟨_, h2, h3, h4⟩ := h
      have hlt : n.toNat < rows.length := by omega
      rw [← h4 rows[n.toNat] (by simp [hlt])]
    · rw [← h.2.2.2.2]
    · exact h.elim
  case ixs =>
    simp only [opW, ixsW] at h
    split at h
    · rename_i s _ _ n _ _ _
      obtain ⟨h2, h3, h4⟩ := h
      have hlt : n.toNat < s.size := by omega
      rw [← h4 s[n.toNat] (by simp [hlt])]
    · exact h.elim
  case ext =>
    simp only [opW, extW] at h
    split at h
    · split at h <;> first | (rw [← h]; done) | exact h.elim
    · exact h.elim
  case len =>
    simp only [opW, lenW] at h
    split at h <;> first | (rw [← h.2]; done) | (rw [← h]; done) | exact h.elim
  case lenS =>
    simp only [opW, lenSW] at h
    split at h <;> first | (rw [← h]; done) | exact h.elim
  case mm =>
    simp only [opW, mmW] at h
    split at h <;> first | (rw [← h.2]; done) | exact h.elim

theorem step_pure {P : Program} {li : LI} {s : Nat → S} {h : Nat → Option Ob} {u : U} (hp : li.op.pure = true) (hS : StepR P li s h u) : u.wr = [] := by
  have main : doR P li s h u → u.wr = [] := by
    intro hd
    unfold doR at hd
    split at hd
    · rename_i f as heq; rw [heq] at hp; cases hp
    · rename_i x as heq; rw [heq] at hp; cases hp
    · exact pure_wr hp hd
  unfold StepR at hS
  split at hS
  · exact main hS
  · rcases hS with ⟨b, _, h1⟩ | ⟨_, rfl⟩
    · rcases h1 with ⟨_, h1⟩ | ⟨_, rfl⟩
      · exact main h1
      · rfl
    · rfl

theorem binW_of {op : BinOp} {x y v : Value} {K : Value → Prop} (h : binW op x y (· = v)) (hk : K v) : binW op x y K := by
  unfold binW at *
  split at h <;> first | exact h.elim | (subst h; exact hk) | (obtain ⟨h1, rfl⟩ := h; exact ⟨h1, hk⟩) | (obtain ⟨h1, h2, rfl⟩ := h; exact ⟨h1, h2, hk⟩)
theorem unW_of {op : UnOp} {x v : Value} {K : Value → Prop} (h : unW op x (· = v)) (hk : K v) : unW op x K := by
  unfold unW at *
  split at h <;> first | exact h.elim | (subst h; exact hk)
theorem binW_mono {op : BinOp} {x y : Value} {K K' : Value → Prop} (hk : ∀ v, K v → K' v) (h : binW op x y K) : binW op x y K' := by
  obtain ⟨v, h1, h2⟩ := binW_lin h
  exact binW_of h1 (hk v h2)
theorem unW_mono {op : UnOp} {x : Value} {K K' : Value → Prop} (hk : ∀ v, K v → K' v) (h : unW op x K) : unW op x K' := by
  obtain ⟨v, h1, h2⟩ := unW_lin h
  exact unW_of h1 (hk v h2)
theorem takeW_mono {n : Nat} {g : Bool} {cs : List S} {K K' : U → Prop} (hk : ∀ u, K u → K' u) (h : takeW n g cs K) : takeW n g cs K' := by
  unfold takeW at *
  split at h <;> first | exact h.elim | exact ⟨h.1, hk _ h.2⟩ | exact hk _ h
theorem opW_mono {d g : Nat} {ev : LA → A} {K K' : U → Prop} {L : LOp} (hk : ∀ u, K u → K' u) (h : opW d g ev K L) : opW d g ev K' L := by
  cases L
  case mv => exact hk _ h
  case pick => simp only [opW, pickW] at *; split at h <;> first | exact h.elim | exact ⟨fun e => hk _ (h.1 e), fun e => hk _ (h.2 e)⟩
  case alloc => exact hk _ h
  case box => exact ⟨h.1, h.2.1, hk _ h.2.2⟩
  case build => simp only [opW] at *; split at h <;> first | exact h.elim | exact hk _ h
  case bslice => simp only [opW] at *; split at h <;> first | exact h.elim | exact ⟨h.1, h.2.1, hk _ h.2.2⟩
  case load =>
    simp only [opW, loadW] at *
    split at h
    · exact takeW_mono hk h
    · exact ⟨h.1, takeW_mono hk h.2⟩
    · exact ⟨h.1, h.2.1, fun r hr => takeW_mono hk (h.2.2 r hr)⟩
    · exact h.elim
  case store =>
    simp only [opW, storeW] at *
    split at h
    · exact ⟨h.1, h.2.1, h.2.2.1, h.2.2.2.1, hk _ h.2.2.2.2⟩
    · refine ⟨h.1, h.2.1, h.2.2.1, ?_⟩
      have h3 := h.2.2.2
      split at h3
      · exact ⟨h3.1, h3.2.1, fun r hr => hk _ (h3.2.2 r hr)⟩
      · exact h3.elim
    · exact h.elim
  case nilck => simp only [opW, nilckW] at *; split at h <;> first | exact h.elim | exact ⟨h.1, hk _ h.2⟩ | exact hk _ h
  case bin => simp only [opW, binOpW] at *; split at h <;> first | exact h.elim | exact binW_mono (fun v hv => hk _ hv) h
  case eqb => simp only [opW, eqbW] at *; split at h <;> first | exact h.elim | exact hk _ h
  case eqp => simp only [opW, eqpW] at *; split at h <;> first | exact h.elim | exact ⟨h.1, hk _ h.2⟩ | exact hk _ h
  case eqs =>
    simp only [opW, eqsW] at *
    split at h
    · split at h <;> first | exact h.elim | exact hk _ h
    · exact h.elim
  case un => simp only [opW, unOpW] at *; split at h <;> first | exact h.elim | exact unW_mono (fun v hv => hk _ hv) h
  case toInt =>
    simp only [opW, toIntW] at *
    split at h
    · exact hk _ h
    · split at h
      · exact ⟨h.1, h.2.1, hk _ h.2.2⟩
      · exact h.elim
    · exact h.elim
  case fu => simp only [opW, fuW] at *; split at h <;> first | exact h.elim | exact hk _ h
  case fcx => simp only [opW, fcxW] at *; split at h <;> first | exact h.elim | exact ⟨h.1, hk _ h.2⟩
  case toBytes => simp only [opW] at *; split at h <;> first | exact h.elim | exact ⟨h.1, hk _ h.2⟩
  case slc0 => simp only [opW, slc0W] at *; split at h <;> first | exact h.elim | exact ⟨h.1, hk _ h.2⟩ | exact ⟨h.1, h.2.1, h.2.2.1, hk _ h.2.2.2⟩
  case eqn => simp only [opW, eqnW] at *; split at h <;> first | exact h.elim | exact hk _ h
  case mark => simp only [opW, markW] at *; split at h <;> first | exact h.elim | exact ⟨h.1, h.2.1, h.2.2.1, hk _ h.2.2.2⟩
  case toStr => simp only [opW, toStrW] at *; split at h <;> first | exact h.elim | exact ⟨h.1, h.2.1, hk _ h.2.2⟩
  case mksl => simp only [opW, mkslW] at *; split at h <;> first | exact h.elim | exact ⟨h.1, h.2.1, h.2.2.1, h.2.2.2.1, hk _ h.2.2.2.2⟩
  case slc =>
    simp only [opW, slcW] at *
    split at h
    · exact ⟨h.1, boundsW_mono (fun _ _ hh => hk _ hh) h.2⟩
    · exact boundsW_mono (fun _ _ hh => hk _ hh) h
    · exact ⟨h.1, h.2.1, boundsW_mono (fun _ _ hh => hk _ hh) h.2.2⟩
    · exact h.elim
  case slcs => simp only [opW, slcsW] at *; split at h <;> first | exact h.elim | exact boundsW_mono (fun _ _ hh => hk _ hh) h
  case fad => simp only [opW, fadW] at *; split at h <;> first | exact h.elim | exact ⟨h.1, hk _ h.2⟩ | exact hk _ h
  case fld =>
    simp only [opW, fldW] at *
    split at h
    · exact ⟨h.1, hk _ h.2⟩
    · split at h <;> first | exact h.elim | exact hk _ h
    · exact h.elim
  case iad =>
    simp only [opW, iadW] at *
    split at h
    · exact ⟨h.1, h.2.1, h.2.2.1, fun r hr => hk _ (h.2.2.2 r hr)⟩
    · exact ⟨h.1, h.2.1, h.2.2.1, h.2.2.2.1, hk _ h.2.2.2.2⟩
    · exact h.elim
  case ixs => simp only [opW, ixsW] at *; split at h <;> first | exact h.elim | exact ⟨h.1, h.2.1, fun c hc => hk _ (h.2.2 c hc)⟩
  case ext =>
    simp only [opW, extW] at *
    split at h
    · split at h <;> first | exact h.elim | exact hk _ h
    · exact h.elim
  case call => exact h.elim
  case callv => exact h.elim
  case mkf => exact hk _ h
  case len => simp only [opW, lenW] at *; split at h <;> first | exact h.elim | exact ⟨h.1, hk _ h.2⟩ | exact hk _ h
  case lenS => simp only [opW, lenSW] at *; split at h <;> first | exact h.elim | exact hk _ h
  case app =>
    simp only [opW, appW] at *
    refine ⟨h.1, ?_⟩
    have h2 := h.2
    split at h2
    · exact h2.elim
    · split at h2
      · exact ⟨h2.1, h2.2.1, hk _ h2.2.2⟩
      · exact ⟨h2.1, h2.2.1, h2.2.2.1, h2.2.2.2.1, h2.2.2.2.2.1, hk _ h2.2.2.2.2.2⟩
      · exact h2.elim
  case appStr =>
    simp only [opW, appW] at *
    split at h
    · split at h
      · exact ⟨h.1, h.2.1, hk _ h.2.2⟩
      · exact ⟨h.1, h.2.1, h.2.2.1, h.2.2.2.1, h.2.2.2.2.1, hk _ h.2.2.2.2.2⟩
      · exact h.elim
    · exact h.elim
  case copy =>
    simp only [opW, copyW] at *
    split at h
    · exact ⟨h.1, h.2.1, h.2.2.1, h.2.2.2.1, hk _ h.2.2.2.2⟩
    · exact hk _ h
    · exact h.elim
  case mm => simp only [opW, mmW] at *; split at h <;> first | exact h.elim | exact ⟨h.1, hk _ h.2⟩

/-- Where nobody is unordered, the text's order is all there is to it. -/
theorem run1_of_run0 {P : Program} : ∀ (l : List (LI × List Nat)) (st : St) (tr : List (List Nat × List Nat)) (K : St → Prop), (l.all fun p => p.2.isEmpty) = true → run0 P (l.map (·.1)) st K → run1 P l st tr K
  | [], _, _, _, _, h => h
  | (li, un) :: r, st, tr, K, hl, h => by
    simp only [List.all_cons, Bool.and_eq_true] at hl
    obtain ⟨h1, h2⟩ := hl
    have h1' : un = [] := by simpa using h1
    subst h1'
    simp only [List.map_cons, run0] at h
    simp only [run1]
    have tail : ∀ st' tr', run0 P (r.map (·.1)) st' K → run1 P r st' tr' K := fun st' tr' hh => run1_of_run0 r st' tr' K h2 hh
    have dt : ∀ (st2 : St) (K0 : U → Prop) (K1 : U → List Nat → Prop), (∀ u T, K0 u → K1 u T) → doW P (li.dst.getD 0) li.op st2 K0 → doT P (li.dst.getD 0) li.op st2 K1 := by
      intro st2 K0 K1 hk hd
      unfold doW at hd
      unfold doT
      split at hd
      · rename_i x as heq
        obtain ⟨f, cs, e1, e2, pins, hA, fargs, hB, res, σ, keep, L, gone, g1, g2, g3⟩ := hd
        rw [heq]
        exact ⟨f, cs, e1, e2, pins, hA, fargs, hB, res, σ, keep, L, gone, g1, g2, hk _ _ g3⟩
      · rename_i f as heq
        obtain ⟨pins, hA, fargs, hB, res, σ, keep, L, gone, g1, g2, g3⟩ := hd
        rw [heq]
        exact ⟨pins, hA, fargs, hB, res, σ, keep, L, gone, g1, g2, hk _ _ g3⟩
      · rename_i hnv hno
        have hnm : ∀ x, li.op ≠ .mv x ∨ doT P (li.dst.getD 0) li.op st2 K1 := fun x => by
          by_cases hm : li.op = .mv x
          · right
            rw [hm] at hd ⊢
            exact hk _ _ hd
          · exact .inl hm
        have hd2 : opW (li.dst.getD 0) (nextGen (hget st2.h (li.dst.getD 0))) (fun x => att (hget st2.h) (evalA (get st2.s) x)) (fun u => K1 u ((li.dst.getD 0 :: (li.op.args.flatMap fun x => (evalA (get st2.s) x).refs)) ++ u.wr.map (·.1))) li.op := opW_mono (fun u hu => hk _ _ hu) hd
        cases hop : li.op <;> first | exact absurd hop (hno _ _) | exact absurd hop (hnv _ _) | (rcases hnm _ with q | q; exact absurd hop q; rw [hop] at q; exact q) | (rw [hop] at hd2; exact hd2)
    unfold stepW at h
    unfold stepT
    split at h
    · exact dt st _ _ (fun u T hh => ⟨by simp, tail _ _ hh⟩) h
    · split at h
      · exact ⟨fun e => dt _ _ _ (fun u T hh => ⟨by simp, tail _ _ hh⟩) (h.1 e), fun e => ⟨by simp, tail _ _ (h.2 e)⟩⟩
      · exact ⟨h.1, by simp, tail _ _ h.2⟩
      · exact h.elim

def trReg (P : Program) (N : Nat) (ops : Array Oper) (draw : Bool) : Option (List (LI × List Nat)) :=
  match ops.toList.mapM (trLI P N ops) with
  | none => none
  | some lis => if draw = true then
      (let B := Region.before ops
       if dirB ops = true ∧ slotsB B lis = true then some (lis.zip (unsOf B lis)) else none)
    else some (lis.map fun li => (li, []))

def trC (P : Program) (N : Nat) (keep : Nat → Option Kp) : Nat → Code → Option LC
  | 0, _ => none
  | n + 1, c => match c with
    | .skip => some .skip
    | .region id ops draw => match trReg P N ops draw with
      | some l => some (.reg (draw && !(l.all fun p => p.2.isEmpty)) l (keep id))
      | none => none
    | .seq a b => match trC P N keep n a, trC P N keep n b with
      | some x, some y => some (.seq x y)
      | _, _ => none
    | .cond o a b => match trA N o, trC P N keep n a, trC P N keep n b with
      | some c, some x, some y => some (.cond c x y)
      | _, _, _ => none
    | .block id b => match trC P N keep n b with
      | some x => some (.block id x)
      | none => none
    | .loop b => match trC P N keep n b with
      | some x => some (.loop x)
      | none => none
    | .exit id => some (.exit id)
    | .scope b => match findLabel b 0 with
      | some r => match trC P N keep n b, trC P N keep n r with
        | some x, some y => some (.scope 0 x y)
        | _, _ => none
      | none => none
    | .label _ => some .label
    | .goto l => some (.goto l)
    | .ret => some .ret
    | _ => none

/-- What is known of one state is known of the other. -/
def LE (pins : List Nat) (st st' : St) : Prop := ∀ (Γ : Ctx) (a : Act) (w : World) (ok : Nat → Prop) (lv : Nat → Option Reg), (∀ id r, Γ.pin id = some r → id ∈ pins) →
  Rel Γ (get st.s) (hget st.h) a w ok lv → ∃ ok' lv', Rel Γ (get st'.s) (hget st'.h) a w ok' lv'

theorem LE.refl (pins : List Nat) (st : St) : LE pins st st := fun _ _ _ ok lv _ R => ⟨ok, lv, R⟩
theorem LE.trans {pins : List Nat} {a b c : St} (h1 : LE pins a b) (h2 : LE pins b c) : LE pins a c := fun Γ x w ok lv hp R => by
  obtain ⟨ok1, lv1, R1⟩ := h1 Γ x w ok lv hp R
  exact h2 Γ x w ok1 lv1 hp R1

def St.normO (pins : List Nat) (st : St) : Option Kp → St
  | none => st
  | some k => (st.norm pins k.1).ghs k.2

def Kseq (k : St → Prop) (Q : Exit → St → Prop) : Exit → St → Prop
  | .normal, st => k st
  | e, st => Q e st
def Kblock (id : Nat) (Q : Exit → St → Prop) : Exit → St → Prop
  | .exit i, st => if i = id then Q .normal st else Q (.exit i) st
  | e, st => Q e st
def Kloop {α : Type} (pins : List Nat) (I : α → St) (G : α → Prop) (μ : α → Nat) (m : Nat) (Q : Exit → St → Prop) : Exit → St → Prop
  | .normal, st => ∃ y, G y ∧ μ y < m ∧ LE pins st (I y)
  | e, st => Q e st
def Kgoto0 {α : Type} (pins : List Nat) (lab : Nat) (I : α → St) (G : α → Prop) (Q : Exit → St → Prop) : Exit → St → Prop
  | .goto l, st => l = lab ∧ ∃ y, G y ∧ LE pins st (I y)
  | e, st => Q e st
def Kgoto {α : Type} (pins : List Nat) (lab : Nat) (I : α → St) (G : α → Prop) (μ : α → Nat) (m : Nat) (Q : Exit → St → Prop) : Exit → St → Prop
  | .goto l, st => l = lab ∧ ∃ y, G y ∧ μ y < m ∧ LE pins st (I y)
  | e, st => Q e st

def condW (c : S) (T F : Prop) : Prop := match c with
  | .d (.v (.bool t)) => (t = true → T) ∧ (t = false → F)
  | _ => False

/-- What is to be shown of a body. -/
def vc (P : Program) (pins : List Nat) : LC → St → (Exit → St → Prop) → Prop
  | .skip, st, Q => Q .normal st
  | .reg false ops keep, st, Q => run0 P (ops.map (·.1)) st fun st' => Q .normal (st'.normO pins keep)
  | .reg true ops keep, st, Q => run1 P ops st [] fun st' => Q .normal (st'.normO pins keep)
  | .seq a b, st, Q => vc P pins a st (Kseq (fun st' => vc P pins b st' Q) Q)
  | .cond c a b, st, Q => condW (evalA (get st.s) c) (vc P pins a st Q) (vc P pins b st Q)
  | .block id b, st, Q => vc P pins b st (Kblock id Q)
  | .loop b, st, Q => ∃ (α : Type) (I : α → St) (G : α → Prop) (μ : α → Nat), (∃ x, G x ∧ LE pins st (I x)) ∧ ∀ x, G x → vc P pins b (I x) (Kloop pins I G μ (μ x) Q)
  | .exit id, st, Q => Q (.exit id) st
  | .scope lab b rest, st, Q => ∃ (α : Type) (I : α → St) (G : α → Prop) (μ : α → Nat), vc P pins b st (Kgoto0 pins lab I G Q) ∧ ∀ x, G x → vc P pins rest (I x) (Kgoto pins lab I G μ (μ x) Q)
  | .label, st, Q => ∃ st', LE pins st st' ∧ Q .normal st'
  | .goto l, st, Q => Q (.goto l) st
  | .ret, st, Q => Q .ret st

/-! ### that it suffices -/

def Post (Γ : Ctx) (Q : Exit → St → Prop) : Exit → Act → World → Prop := fun e a w => ∃ st ok lv, Q e st ∧ Rel Γ (get st.s) (hget st.h) a w ok lv

theorem wp_loop_fam {P : Program} {c : Code} {Q : Exit → Act → World → Prop} {α : Type} (I : α → Act → World → Prop) (μ : α → Nat) (round : ∀ x a w, I x a w → c.wp P (Exit.then (fun a' w' => ∃ y, μ y < μ x ∧ I y a' w') Q) a w)
    {a : Act} {w : World} (x0 : α) (h0 : I x0 a w) : (Code.loop c).wp P Q a w := by
  intro b k cs
  have key : ∀ n x a w, μ x = n → I x a w → ∃ e a' w', Q e a' w' ∧ Arrives P (lone (b.at a (.code c :: .inLoop c :: k)) cs w) b k cs e a' w' := by
    intro n
    induction n using Nat.strongRecOn with
    | _ n ih =>
      intro x a w hn hI
      obtain ⟨e, a₁, w₁, hq, harr⟩ := round x a w hI b (.inLoop c :: k) cs
      cases e with
      | normal =>
        obtain ⟨y, hlt, hI₁⟩ := hq
        obtain ⟨e₂, a₂, w₂, hq₂, harr₂⟩ := ih (μ y) (hn ▸ hlt) y a₁ w₁ rfl hI₁
        exact ⟨e₂, a₂, w₂, hq₂, .of_steps (Steps.trans harr (.one step_inLoop)) harr₂⟩
      | exit id => exact ⟨_, a₁, w₁, hq, .pass (x := .inLoop c) rfl (fun _ _ => .inl (by simp)) harr⟩
      | goto l => exact ⟨_, a₁, w₁, hq, .pass (x := .inLoop c) rfl (fun _ _ => .inl (by simp)) harr⟩
      | ret => exact ⟨_, a₁, w₁, hq, .pass (x := .inLoop c) rfl (fun _ _ => .inl (by simp)) harr⟩
      | panic ch => exact ⟨_, a₁, w₁, hq, .pass (x := .inLoop c) rfl (fun _ _ => .inl (by simp)) harr⟩
      | outgrown => exact ⟨_, a₁, w₁, hq, .pass (x := .inLoop c) rfl (fun _ _ => .inl (by simp)) harr⟩
  obtain ⟨e, a', w', hq, harr⟩ := key _ x0 a w rfl h0
  exact ⟨e, a', w', hq, .of_steps (.one step_loop) harr⟩

theorem wp_scope_fam {P : Program} {c rest : Code} {Q : Exit → Act → World → Prop} {α : Type} (l : Nat) (hf : findLabel c l = some rest) (I : α → Act → World → Prop) (μ : α → Nat) {a : Act} {w : World}
    (first : c.wp P (Exit.jump l (fun a' w' => ∃ y, I y a' w') Q) a w) (pass : ∀ x a w, I x a w → rest.wp P (Exit.jump l (fun a' w' => ∃ y, μ y < μ x ∧ I y a' w') Q) a w) : (Code.scope c).wp P Q a w := by
  intro b k cs
  have hg : gotoIn l (.inScope c :: k) = some (.code rest :: .inScope c :: k) := by simp [gotoIn, hf]
  have key : ∀ n x a w, μ x = n → I x a w → ∃ e a' w', Q e a' w' ∧ Arrives P (lone (b.at a (.code rest :: .inScope c :: k)) cs w) b k cs e a' w' := by
    intro n
    induction n using Nat.strongRecOn with
    | _ n ih =>
      intro x a w hn hJ
      obtain ⟨e, a₁, w₁, hq, harr⟩ := pass x a w hJ b (.inScope c :: k) cs
      cases e with
      | normal => exact ⟨.normal, a₁, w₁, hq, Steps.trans harr (.one step_inScope)⟩
      | exit id => exact ⟨.exit id, a₁, w₁, hq, fun k' hk => harr k' (by simp [exitTo, hk])⟩
      | goto l' =>
        obtain ⟨rfl, y, hlt, hJ'⟩ := hq
        obtain ⟨e₂, a₂, w₂, hq₂, harr₂⟩ := ih _ (by omega) y a₁ w₁ rfl hJ'
        exact ⟨e₂, a₂, w₂, hq₂, .of_steps (harr _ hg) harr₂⟩
      | ret => exact ⟨_, a₁, w₁, hq, harr⟩
      | panic ch => exact ⟨_, a₁, w₁, hq, harr⟩
      | outgrown => exact ⟨_, a₁, w₁, hq, harr⟩
  obtain ⟨e, a₁, w₁, hq, harr⟩ := first b (.inScope c :: k) cs
  cases e with
  | normal => exact ⟨.normal, a₁, w₁, hq, .head step_scope (Steps.trans harr (.one step_inScope))⟩
  | exit id => exact ⟨.exit id, a₁, w₁, hq, fun k' hk => .head step_scope (harr k' (by simp [exitTo, hk]))⟩
  | goto l' =>
    obtain ⟨rfl, y, hJ'⟩ := hq
    obtain ⟨e₂, a₂, w₂, hq₂, harr₂⟩ := key _ y a₁ w₁ rfl hJ'
    exact ⟨e₂, a₂, w₂, hq₂, .of_steps (.head step_scope (harr _ hg)) harr₂⟩
  | ret => exact ⟨_, a₁, w₁, hq, .of_steps (.one step_scope) harr⟩
  | panic ch => exact ⟨_, a₁, w₁, hq, .of_steps (.one step_scope) harr⟩
  | outgrown => exact ⟨_, a₁, w₁, hq, .of_steps (.one step_scope) harr⟩

section
variable {Γ : Ctx} {pins : List Nat}

theorem run0_ok {ops : Array Oper} {Q : Exit → Act → World → Prop} : ∀ (lis : List LI) (j : Nat), (∀ (i : Nat) (li : LI), lis[i]? = some li → ∃ o, ops[j + i]? = some o ∧ trLI Γ.P Γ.N ops o = some li) → ∀ (st : St) (K : St → Prop), run0 Γ.P lis st K →
    ∀ (a : Act) (w : World) (ok : Nat → Prop) (lv : Nat → Option Reg), Rel Γ (get st.s) (hget st.h) a w ok lv → (∀ st' a w ok lv, K st' → Rel Γ (get st'.s) (hget st'.h) a w ok lv → Q .normal a w) → wpOps Γ.P ops Q (List.range' j lis.length) a w
  | [], j, _, st, K, h, a, w, ok, lv, R, hK => hK st a w ok lv h R
  | li :: r, j, htr, st, K, h, a, w, ok, lv, R, hK => by
    obtain ⟨st', u, ⟨e1, e2⟩, hS, hr⟩ := stepW_lin h
    rw [List.length_cons, List.range'_succ, wpOps_cons]
    obtain ⟨o, ho, hli⟩ := htr 0 li rfl
    refine step_ok R ho hli hS (fun a' w' ok' lv' R' => ?_)
    refine run0_ok r (j + 1) (fun i li' hi => ?_) _ K hr a' w' ok' lv' ?_ hK
    · have := htr (i + 1) li' (by simpa using hi)
      rw [show j + 1 + i = j + (i + 1) by omega]; exact this
    · simp only [St.app]
      rw [get_putS, hget_wrL, e1, e2]
      exact R'

theorem bitB_bf {ops : Array Oper} (i j : Nat) : bitB (Region.before ops) i j = bf ops i j := rfl

theorem dirB_dir {ops : Array Oper} (h : dirB ops = true) : ∀ (j : Nat) (o : Oper), ops[j]? = some o → ∀ e ∈ o.after, Region.binds .any e = true → e.on < j := by
  intro j o ho e he hb
  unfold dirB at h
  have hj : j < ops.size := (Array.getElem?_eq_some_iff.1 ho).1
  have := List.all_eq_true.1 h j (List.mem_range.2 hj)
  rw [ho] at this
  have := List.all_eq_true.1 this e (by simpa using he)
  rw [hb] at this
  simpa using this

theorem slotsB_slots {ops : Array Oper} {lis : List LI} (h : slotsB (Region.before ops) lis = true) : ∀ (i j : Nat) (p q : LI), i ≠ j → lis[i]? = some p → lis[j]? = some q → ∀ t, p.dst = some t → (t ∈ q.slots ∨ q.dst = some t) → bf ops i j = true ∨ bf ops j i = true := by
  intro i j p q hne hp hq t ht hor
  unfold slotsB at h
  have hi : i < lis.length := (List.getElem?_eq_some_iff.1 hp).1
  have hj : j < lis.length := (List.getElem?_eq_some_iff.1 hq).1
  have := List.all_eq_true.1 (List.all_eq_true.1 h i (List.mem_range.2 hi)) j (List.mem_range.2 hj)
  rw [hp, hq] at this
  simp only [ht, hne, decide_false, Bool.false_or, Bool.or_eq_true, bitB_bf] at this
  rcases this with (this | this) | this
  · exfalso
    have hc : (q.slots.contains t || q.dst == some t) = true := by
      rcases hor with hor | hor
      · simp [hor]
      · simp [hor]
    rw [hc] at this; cases this
  · exact .inl this
  · exact .inr this

theorem reg_ok (hm : Γ.P.follows .mixedOrders = true) {id : Nat} {ops : Array Oper} {draw : Bool} {l : List (LI × List Nat)} (htr : trReg Γ.P Γ.N ops draw = some l) {st : St} {K : St → Prop}
    (h : if draw = true then run1 Γ.P l st [] K else run0 Γ.P (l.map (·.1)) st K) {a : Act} {w : World} {ok : Nat → Prop} {lv : Nat → Option Reg} (R : Rel Γ (get st.s) (hget st.h) a w ok lv) {Q : Exit → Act → World → Prop}
    (hK : ∀ st' a w ok lv, K st' → Rel Γ (get st'.s) (hget st'.h) a w ok lv → Q .normal a w) : (Code.region id ops draw).wp Γ.P Q a w := by
  unfold trReg at htr
  split at htr
  · cases htr
  · rename_i lis hlis
    have hlen : lis.length = ops.size := by
      have : ∀ (l : List Oper) (r : List LI), l.mapM (trLI Γ.P Γ.N ops) = some r → r.length = l.length := by
        intro l
        induction l with
        | nil => intro r hr; simp at hr; subst hr; rfl
        | cons o l ih =>
          intro r hr
          rw [List.mapM_cons] at hr
          cases h1 : trLI Γ.P Γ.N ops o with
          | none => rw [h1] at hr; cases hr
          | some x =>
            rw [h1] at hr
            cases h2 : l.mapM (trLI Γ.P Γ.N ops) with
            | none => rw [h2] at hr; cases hr
            | some y => rw [h2] at hr; cases hr; simp [ih y h2]
      have := this _ _ hlis
      simpa using this
    have htr' : ∀ (j : Nat) (o : Oper) (li : LI), ops[j]? = some o → lis[j]? = some li → trLI Γ.P Γ.N ops o = some li := by
      intro j o li ho hl
      have := mapM_get hlis j o (by simpa using ho)
      rw [hl] at this; exact this.symm
    split at htr
    · rename_i hd
      subst hd
      simp only at htr
      split at htr
      · rename_i hc
        cases htr
        rw [if_pos rfl] at h
        have plan : Plan Γ.P Γ.N ops lis := ⟨hlen, htr', dirB_dir hc.1, slotsB_slots hc.2⟩
        obtain ⟨us, Ts, g1, g1', ⟨st', g2, g3, g4⟩, g5⟩ := run1_run _ _ _ K h
        have hul : (unsOf (Region.before ops) lis).length = lis.length := by simp [unsOf]
        have hfst : (lis.zip (unsOf (Region.before ops) lis)).map (·.1) = lis := by
          rw [List.map_fst_zip]; omega
        rw [hfst] at g3 g4 g5
        have hzl : (lis.zip (unsOf (Region.before ops) lis)).length = lis.length := by simp [hul]
        have huslen : us.length = lis.length := by rw [g1, hzl]
        have hTslen : Ts.length = lis.length := by rw [g1', hzl]
        have entry : ∀ (j : Nat) (li : LI), lis[j]? = some li → (lis.zip (unsOf (Region.before ops) lis))[j]? = some (li, (List.range j).filter fun i => !bf ops i j && !(pureAt lis i && pureAt lis j)) := by
          intro j li hj
          have hlt : j < lis.length := (List.getElem?_eq_some_iff.1 hj).1
          rw [List.getElem?_zip_eq_some]
          refine ⟨hj, ?_⟩
          simp [unsOf, hlt]
          rfl
        have run : Run Γ.P ops lis us (fun j => Ts.getD j []) (get st.s) (hget st.h) := by
          refine ⟨huslen, fun j li u hj hu => ?_, fun j u hu id hid => ?_⟩
          · have hlt : j < Ts.length := by rw [hTslen]; exact (List.getElem?_eq_some_iff.1 hj).1
            have := (g5 j _ u Ts[j] (entry j li hj) hu (List.getElem?_eq_getElem hlt)).1
            rw [List.getD_eq_getElem?_getD, List.getElem?_eq_getElem hlt]
            exact this
          · have hlt : j < Ts.length := by rw [hTslen, ← huslen]; exact (List.getElem?_eq_some_iff.1 hu).1
            have hlt' : j < lis.length := by omega
            have := (g5 j _ u Ts[j] (entry j _ (List.getElem?_eq_getElem hlt')) hu (List.getElem?_eq_getElem hlt)).2.1 id hid
            show id ∈ Ts.getD j []
            rw [List.getD_eq_getElem?_getD, List.getElem?_eq_getElem hlt]
            exact this
        have race : Race ops us (fun j => Ts.getD j []) := by
          intro i j p q hij hp hq hbf
          have hlt : j < lis.length := by rw [← huslen]; exact (List.getElem?_eq_some_iff.1 hq).1
          have hltT : j < Ts.length := by omega
          have hiT : i < Ts.length := by omega
          have hilt : i < lis.length := by omega
          by_cases hpure : (pureAt lis i && pureAt lis j) = true
          · simp only [Bool.and_eq_true, pureAt, List.getElem?_eq_getElem hlt, List.getElem?_eq_getElem hilt] at hpure
            have ei := step_pure hpure.1 (run.loc i _ p (List.getElem?_eq_getElem hilt) hp _ _ (fun _ _ => rfl) (fun _ _ => rfl))
            have ej := step_pure hpure.2 (run.loc j _ q (List.getElem?_eq_getElem hlt) hq _ _ (fun _ _ => rfl) (fun _ _ => rfl))
            rw [ei, ej]
            exact ⟨fun id hid => by simp at hid, fun id hid => by simp at hid⟩
          have hpure' : (pureAt lis i && pureAt lis j) = false := by simpa using hpure
          have := (g5 j _ q Ts[j] (entry j _ (List.getElem?_eq_getElem hlt)) hq (List.getElem?_eq_getElem hltT)).2.2 i (List.mem_filter.2 ⟨List.mem_range.2 hij, by simp only [hbf, hpure']; rfl⟩) (by simp; exact hij)
          have hzi : ((us.zip Ts).map fun q => (q.1.wr.map (·.1), q.2))[i]? = some (p.wr.map (·.1), Ts[i]) := by
            rw [List.getElem?_map]
            have : (us.zip Ts)[i]? = some (p, Ts[i]) := by
              rw [List.getElem?_zip_eq_some]; exact ⟨hp, List.getElem?_eq_getElem hiT⟩
            rw [this]; rfl
          rw [List.nil_append, List.getD_eq_getElem?_getD, hzi] at this
          simp only [Option.getD_some, apartW, Bool.and_eq_true, List.all_eq_true, Bool.not_eq_true'] at this
          have ej : Ts.getD j [] = Ts[j] := by rw [List.getD_eq_getElem?_getD, List.getElem?_eq_getElem hltT]; rfl
          have ei : Ts.getD i [] = Ts[i] := by rw [List.getD_eq_getElem?_getD, List.getElem?_eq_getElem hiT]; rfl
          simp only [ej, ei]
          refine ⟨fun id hid hc => ?_, fun id hid hc => ?_⟩
          · have := this.1 id hid
            rw [List.contains_iff_mem.2 hc] at this; cases this
          · have := this.2 id hid
            rw [List.contains_iff_mem.2 hc] at this; cases this
        refine region_ok plan run hm (fun _ => race) (fun a' w' ok' lv' R' => ?_) R
        rw [← g3, ← g4] at R'
        exact hK st' a' w' ok' lv' g2 R'
      · cases htr
    · rename_i hd
      cases htr
      have hd' : draw = false := by simpa using hd
      subst hd'
      rw [if_neg (by simp)] at h
      refine wp_region ?_
      rw [List.range_eq_range']
      have e : (lis.map fun li => (li, ([] : List Nat))).map (·.1) = lis := by rw [List.map_map]; exact List.map_id _
      rw [e] at h
      have := run0_ok (ops := ops) (Q := Q) lis 0 (fun i li hi => ?_) st K h a w ok lv R hK
      · rw [hlen] at this; exact this
      · have hlt : i < ops.size := by rw [← hlen]; exact (List.getElem?_eq_some_iff.1 hi).1
        refine ⟨ops[i], by simp [hlt], htr' i _ li (by simp [hlt]) hi⟩

theorem vc_sound (hm : Γ.P.follows .mixedOrders = true) (hp : ∀ id r, Γ.pin id = some r → id ∈ pins) (keep : Nat → Option Kp) : ∀ (n : Nat) (c : Code) (l : LC), trC Γ.P Γ.N keep n c = some l → ∀ (st : St) (Q : Exit → St → Prop), vc Γ.P pins l st Q →
    ∀ (a : Act) (w : World) (ok : Nat → Prop) (lv : Nat → Option Reg), Rel Γ (get st.s) (hget st.h) a w ok lv → c.wp Γ.P (Post Γ Q) a w := by
  intro n
  induction n with
  | zero => intro c l h; cases h
  | succ n ih =>
    intro c l htr st Q hv a w ok lv R
    unfold trC at htr
    split at htr
    case h_1 => cases htr; exact wp_skip ⟨st, ok, lv, hv, R⟩
    case h_2 id ops draw =>
      split at htr
      · rename_i lis hr
        cases htr
        have norm : ∀ (st' : St) a w ok lv, Q .normal (st'.normO pins (keep id)) → Rel Γ (get st'.s) (hget st'.h) a w ok lv → Post Γ Q .normal a w := by
          intro st' a w ok lv hq R'
          cases hk : keep id with
          | none => rw [hk] at hq; exact ⟨st', ok, lv, hq, R'⟩
          | some k =>
            rw [hk] at hq
            obtain ⟨lv2, R2⟩ := ghs_rel k.2 (R'.normSt pins k.1 hp)
            exact ⟨_, _, _, hq, R2⟩
        cases draw with
        | false => exact reg_ok hm hr (K := fun st' => Q .normal (st'.normO pins (keep id))) (by rw [if_neg (by simp)]; simpa only [vc, Bool.false_and] using hv) R norm
        | true =>
          refine reg_ok hm hr (K := fun st' => Q .normal (st'.normO pins (keep id))) ?_ R norm
          rw [if_pos rfl]
          cases hall : (lis.all fun p => p.2.isEmpty) with
          | true =>
            rw [hall] at hv
            exact run1_of_run0 lis st [] _ hall (by simpa only [vc, Bool.true_and, Bool.not_true] using hv)
          | false =>
            rw [hall] at hv
            simpa only [vc, Bool.true_and, Bool.not_false] using hv
      · cases htr
    case h_3 x y =>
      split at htr
      · rename_i lx ly h1 h2
        cases htr
        simp only [vc] at hv
        refine wp_seq (wp_mono (ih x lx h1 st _ hv a w ok lv R) ?_)
        rintro e a' w' ⟨st', ok', lv', hq, R'⟩
        cases e with
        | normal => exact ih y ly h2 st' Q hq a' w' ok' lv' R'
        | _ => exact ⟨st', ok', lv', hq, R'⟩
      · cases htr
    case h_4 o x y =>
      split at htr
      · rename_i c lx ly h0 h1 h2
        cases htr
        simp only [vc] at hv
        have hrep := R.eval h0
        unfold condW at hv
        split at hv
        · rename_i t ht
          rw [ht] at hrep
          have he : a.eval o = .bool t := hrep.dv
          refine wp_cond_split he (fun e => ih x lx h1 st Q (hv.1 e) a w ok lv R) (fun e => ih y ly h2 st Q (hv.2 e) a w ok lv R)
        · exact hv.elim
      · cases htr
    case h_5 id b =>
      split at htr
      · rename_i lb h1
        cases htr
        simp only [vc] at hv
        refine wp_block (wp_mono (ih b lb h1 st _ hv a w ok lv R) ?_)
        rintro e a' w' ⟨st', ok', lv', hq, R'⟩
        cases e with
        | exit i =>
          simp only [Exit.inBlock]
          simp only [Kblock] at hq
          by_cases e : i = id
          · rw [if_pos e] at hq ⊢; exact ⟨st', ok', lv', hq, R'⟩
          · rw [if_neg e] at hq ⊢; exact ⟨st', ok', lv', hq, R'⟩
        | _ => exact ⟨st', ok', lv', hq, R'⟩
      · cases htr
    case h_6 b =>
      split at htr
      · rename_i lb h1
        cases htr
        simp only [vc] at hv
        obtain ⟨α, I, G, μ, ⟨x0, g0, l0⟩, hr⟩ := hv
        obtain ⟨ok0, lv0, R0⟩ := l0 Γ a w ok lv hp R
        refine wp_loop_fam (fun x a w => G x ∧ ∃ ok lv, Rel Γ (get (I x).s) (hget (I x).h) a w ok lv) μ (fun x a w hx => ?_) x0 ⟨g0, ok0, lv0, R0⟩
        obtain ⟨gx, ok1, lv1, R1⟩ := hx
        refine wp_mono (ih b lb h1 (I x) _ (hr x gx) a w ok1 lv1 R1) ?_
        rintro e a' w' ⟨st', ok', lv', hq, R'⟩
        cases e with
        | normal =>
          obtain ⟨y, gy, hlt, hle⟩ := hq
          obtain ⟨ok2, lv2, R2⟩ := hle Γ a' w' ok' lv' hp R'
          exact ⟨y, hlt, gy, ok2, lv2, R2⟩
        | _ => exact ⟨st', ok', lv', hq, R'⟩
      · cases htr
    case h_7 => cases htr; exact wp_exit ⟨st, ok, lv, hv, R⟩
    case h_8 b =>
      split at htr
      · rename_i rest hf
        split at htr
        · rename_i lb lr h1 h2
          cases htr
          simp only [vc] at hv
          obtain ⟨α, I, G, μ, hb, hr⟩ := hv
          refine wp_scope_fam 0 hf (fun x a w => G x ∧ ∃ ok lv, Rel Γ (get (I x).s) (hget (I x).h) a w ok lv) μ (wp_mono (ih b lb h1 st _ hb a w ok lv R) ?_) (fun x a w hx => ?_)
          · rintro e a' w' ⟨st', ok', lv', hq, R'⟩
            cases e with
            | goto l =>
              obtain ⟨e, y, gy, hle⟩ := hq
              obtain ⟨ok2, lv2, R2⟩ := hle Γ a' w' ok' lv' hp R'
              exact ⟨e, y, gy, ok2, lv2, R2⟩
            | _ => exact ⟨st', ok', lv', hq, R'⟩
          · obtain ⟨gx, ok1, lv1, R1⟩ := hx
            refine wp_mono (ih rest lr h2 (I x) _ (hr x gx) a w ok1 lv1 R1) ?_
            rintro e a' w' ⟨st', ok', lv', hq, R'⟩
            cases e with
            | goto l =>
              obtain ⟨e, y, gy, hlt, hle⟩ := hq
              obtain ⟨ok2, lv2, R2⟩ := hle Γ a' w' ok' lv' hp R'
              exact ⟨e, y, hlt, gy, ok2, lv2, R2⟩
            | _ => exact ⟨st', ok', lv', hq, R'⟩
        · cases htr
      · cases htr
    case h_9 =>
      cases htr
      obtain ⟨st', hle, hq⟩ := hv
      obtain ⟨ok2, lv2, R2⟩ := hle Γ a w ok lv hp R
      exact wp_label ⟨st', ok2, lv2, hq, R2⟩
    case h_10 l => cases htr; exact wp_goto ⟨st, ok, lv, hv, R⟩
    case h_11 => cases htr; exact wp_ret ⟨st, ok, lv, hv, R⟩
    case h_12 => cases htr
end
end Go.Eng
