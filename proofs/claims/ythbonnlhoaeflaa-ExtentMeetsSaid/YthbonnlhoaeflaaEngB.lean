/-
  The engine, part B: the relation between an abstract state and the machine, and the laws by which it passes on.
-/
import Derived.Test.YthbonnlhoaeflaaEngA
set_option linter.unusedVariables false
set_option linter.unusedSimpArgs false
namespace Go.Eng
open Go.RowKit

def up {α : Type} (f : Nat → α) (d : Nat) (x : α) : Nat → α := fun t => if t = d then x else f t
@[simp] theorem up_same {α : Type} (f : Nat → α) (d : Nat) (x : α) : up f d x d = x := by simp [up]
theorem up_ne {α : Type} (f : Nat → α) (d : Nat) (x : α) {t : Nat} (h : t ≠ d) : up f d x t = f t := by simp [up, h]

def InBlk (w : World) (ok : Nat → Prop) (lv : Nat → Option Reg) (b : Nat) (r : Reg) (cells : List S) : Prop :=
  ∃ c e fz, w.heap[b]? = some (.cells c e fz) ∧ c.size = r.tot ∧ (fz.1 = fz.2 ∨ c.size ≤ fz.1) ∧ r.off + cells.length ≤ c.size ∧
    ∀ k s, cells[k]? = some s → ∃ u, c[r.off + k]? = some u ∧ u.oneCell' = true ∧ RepS w ok lv s u

def BodyAt (w : World) (ok : Nat → Prop) (lv : Nat → Option Reg) (r : Reg) : Body → Prop
  | .dead => True
  | .arr sz rows => r.sz = sz ∧ 0 < sz ∧ (∀ row ∈ rows, row.length = sz) ∧ (match r.blk with
      | none => rows = []
      | some b => InBlk w ok lv b r (rows.flatten.map .d))
  | .box cs => r.sz = cs.length ∧ ∃ b, r.blk = some b ∧ InBlk w ok lv b r cs

structure Ctx where
  P : Program
  N : Nat
  w0 : World
  ok0 : Nat → Prop
  own0 : Nat → Prop
  pin : Nat → Option Reg

/-- What the world is to what it was at the begin: streams and tape the same, no block gone, what wasn't handed over the same. -/
structure Fr (Γ : Ctx) (w : World) : Prop where
  os : w.os = Γ.w0.os
  tape : w.tape = Γ.w0.tape
  output : w.output = Γ.w0.output
  size : Γ.w0.heap.size ≤ w.heap.size
  block : ∀ k, k < Γ.w0.heap.size → ¬ Γ.own0 k → w.heap[k]? = Γ.w0.heap[k]?

structure Rel (Γ : Ctx) (s : Nat → S) (h : Nat → Option Ob) (a : Act) (w : World) (ok : Nat → Prop) (lv : Nat → Option Reg) : Prop where
  tm : a.tmps.size = Γ.N
  df : a.defers = []
  sl : ∀ t v, a.tmps[t]? = some v → RepS w ok lv (s t) v
  hp : ∀ id ob, h id = some ob → ∃ r, lv id = some r ∧ r.gen = ob.gen ∧ BodyAt w ok lv r ob.body
  hn : ∀ id, h id = none → lv id = none
  inj : ∀ i j oi oj ri rj b, h i = some oi → h j = some oj → oi.body.live = true → oj.body.live = true → lv i = some ri → lv j = some rj → ri.blk = some b → rj.blk = some b → i = j
  okl : ∀ b, ok b → b < w.heap.size
  okn : ∀ b id ob r, ok b → h id = some ob → ob.body.live = true → lv id = some r → r.blk ≠ some b
  fr : Fr Γ w
  pv : ∀ b, ok b → Γ.ok0 b ∨ Γ.own0 b ∨ Γ.w0.heap.size ≤ b
  ph : ∀ id ob r b, h id = some ob → ob.body.live = true → lv id = some r → r.blk = some b → Γ.own0 b ∨ Γ.w0.heap.size ≤ b
  pn : ∀ id r0 r, Γ.pin id = some r0 → lv id = some r → r.gen = 0 → r = r0
  pl : ∀ id r0, Γ.pin id = some r0 → h id ≠ none

theorem InBlk.lt {w : World} {ok : Nat → Prop} {lv : Nat → Option Reg} {b : Nat} {r : Reg} {cs : List S} (h : InBlk w ok lv b r cs) : b < w.heap.size := by
  obtain ⟨c, e, fz, h, _⟩ := h
  exact (Array.getElem?_eq_some_iff.1 h).1

theorem InBlk.mono {w w' : World} {ok ok' : Nat → Prop} {lv lv' : Nat → Option Reg} {b : Nat} {r : Reg} {cs : List S}
    (hw : ∀ b, ok b → w'.heap[b]? = w.heap[b]?) (ho : ∀ b, ok b → ok' b) (hl : Later lv lv') (hb : w'.heap[b]? = w.heap[b]?) (h : InBlk w ok lv b r cs) : InBlk w' ok' lv' b r cs := by
  obtain ⟨c, e, fz, h1, h2, h3, h4, h5⟩ := h
  refine ⟨c, e, fz, hb.trans h1, h2, h3, h4, fun k s hk => ?_⟩
  obtain ⟨u, a1, a2, a3⟩ := h5 k s hk
  exact ⟨u, a1, a2, a3.mono hw ho hl⟩

theorem BodyAt.mono {w w' : World} {ok ok' : Nat → Prop} {lv lv' : Nat → Option Reg} {r : Reg} {B : Body}
    (hw : ∀ b, ok b → w'.heap[b]? = w.heap[b]?) (ho : ∀ b, ok b → ok' b) (hl : Later lv lv') (hb : ∀ b, r.blk = some b → B.live = true → w'.heap[b]? = w.heap[b]?) (h : BodyAt w ok lv r B) : BodyAt w' ok' lv' r B := by
  cases B with
  | dead => trivial
  | arr sz rows =>
    obtain ⟨h1, h2, h3, h4⟩ := h
    refine ⟨h1, h2, h3, ?_⟩
    cases hr : r.blk with
    | none => rw [hr] at h4; exact h4
    | some b => rw [hr] at h4; exact InBlk.mono hw ho hl (hb b hr rfl) h4
  | box cs =>
    obtain ⟨h1, b, h2, h3⟩ := h
    exact ⟨h1, b, h2, InBlk.mono hw ho hl (hb b h2 rfl) h3⟩

theorem BodyAt.lt {w : World} {ok : Nat → Prop} {lv : Nat → Option Reg} {r : Reg} {B : Body} (h : BodyAt w ok lv r B) (hl : B.live = true) {b : Nat} (hb : r.blk = some b) : b < w.heap.size := by
  cases B with
  | dead => cases hl
  | arr sz rows => obtain ⟨_, _, _, h4⟩ := h; rw [hb] at h4; exact h4.lt
  | box cs => obtain ⟨_, b', h2, h3⟩ := h; rw [hb] at h2; cases h2; exact h3.lt

section
variable {Γ : Ctx} {s : Nat → S} {h : Nat → Option Ob} {a : Act} {w : World} {ok : Nat → Prop} {lv : Nat → Option Reg}

/-- A slot is written. -/
theorem Rel.put (R : Rel Γ s h a w ok lv) (d : Nat) (x : S) (v : Value) (hx : RepS w ok lv x v) : Rel Γ (up s d x) h (a.put (some d) v) w ok lv where
  tm := by simp [Act.put, R.tm]
  df := by simpa [Act.put] using R.df
  sl t v' hv := by
    simp only [Act.put] at hv
    by_cases e : t = d
    · subst e
      rw [up_same]
      by_cases hlt : t < a.tmps.size
      · simp [hlt] at hv; subst hv; exact hx
      · simp [hlt] at hv
    · rw [up_ne _ _ _ e]
      rw [Array.getElem?_setIfInBounds_ne (Ne.symm e)] at hv
      exact R.sl t v' hv
  hp := R.hp
  hn := R.hn
  inj := R.inj
  okl := R.okl
  okn := R.okn
  fr := R.fr
  pv := R.pv
  ph := R.ph
  pn := R.pn
  pl := R.pl

theorem Rel.putO (R : Rel Γ s h a w ok lv) (d : Option Nat) (x : S) (v : Value) (hx : RepS w ok lv x v) :
    Rel Γ (match d with | some d => up s d x | none => s) h (a.put d v) w ok lv := by
  cases d with
  | none => exact R
  | some d => exact R.put d x v hx

/-- The world is another, its memory is not (a draw). -/
theorem Rel.world (R : Rel Γ s h a w ok lv) (w' : World) (hh : w'.heap = w.heap) (h1 : w'.os = w.os) (h2 : w'.tape = w.tape) (h3 : w'.output = w.output) : Rel Γ s h a w' ok lv where
  tm := R.tm
  df := R.df
  sl t v hv := (R.sl t v hv).mono (fun b _ => by rw [hh]) (fun _ h => h) (Later.refl _)
  hp id ob ho := by
    obtain ⟨r, a1, a2, a3⟩ := R.hp id ob ho
    exact ⟨r, a1, a2, a3.mono (fun b _ => by rw [hh]) (fun _ h => h) (Later.refl _) (fun b _ _ => by rw [hh])⟩
  hn := R.hn
  inj := R.inj
  okl b hb := by rw [hh]; exact R.okl b hb
  okn := R.okn
  fr := ⟨h1.trans R.fr.os, h2.trans R.fr.tape, h3.trans R.fr.output, by rw [hh]; exact R.fr.size, fun k hk hn => by rw [hh]; exact R.fr.block k hk hn⟩
  pv := R.pv
  ph := R.ph
  pn := R.pn
  pl := R.pl

/-- One owned row changes: in its own block, or into a new one. -/
theorem Rel.upd (R : Rel Γ s h a w ok lv) (id : Nat) (ob' : Ob) (r' : Reg) (w' : World)
    (hage : ∀ r, lv id = some r → r' = r ∨ r.gen < r'.gen) (hgen : r'.gen = ob'.gen)
    (h1 : w'.os = w.os) (h2 : w'.tape = w.tape) (h3 : w'.output = w.output) (h4 : w.heap.size ≤ w'.heap.size)
    (hkeep : ∀ b, b < w.heap.size → (∀ ob r, h id = some ob → ob.body.live = true → lv id = some r → r.blk ≠ some b) → w'.heap[b]? = w.heap[b]?)
    (hnew : ∀ b, r'.blk = some b → ob'.body.live = true → w.heap.size ≤ b ∨ ∃ ob r, h id = some ob ∧ ob.body.live = true ∧ lv id = some r ∧ r.blk = some b)
    (hbody : BodyAt w' ok (up lv id (some r')) r' ob'.body) :
    Rel Γ s (up h id (some ob')) a w' ok (up lv id (some r')) := by
  have hl : Later lv (up lv id (some r')) := by
    intro i r hi
    by_cases e : i = id
    · subst e; exact ⟨r', by simp, by rcases hage r hi with e | e <;> simp [e]⟩
    · exact ⟨r, by rw [up_ne _ _ _ e]; exact hi, .inl rfl⟩
  have hok : ∀ b, ok b → w'.heap[b]? = w.heap[b]? := fun b hb => hkeep b (R.okl b hb) fun ob r ho hlv hr => R.okn b id ob r hb ho hlv hr
  have hoth : ∀ j oj rj b, j ≠ id → h j = some oj → oj.body.live = true → lv j = some rj → rj.blk = some b → b < w.heap.size ∧ (∀ ob r, h id = some ob → ob.body.live = true → lv id = some r → r.blk ≠ some b) := by
    intro j oj rj b hj hoj hlj hrj hb
    obtain ⟨r, e1, _, e3⟩ := R.hp j oj hoj
    rw [hrj] at e1; cases e1
    exact ⟨e3.lt hlj hb, fun ob r ho hlv hr hbb => hj (R.inj j id oj ob rj r b hoj ho hlj hlv hrj hr hb hbb)⟩
  refine ⟨R.tm, R.df, fun t v hv => (R.sl t v hv).mono hok (fun _ h => h) hl, ?_, ?_, ?_, fun b hb => Nat.lt_of_lt_of_le (R.okl b hb) h4, ?_, ?_, R.pv, ?_, ?_, ?_⟩
  · intro j ob hj
    by_cases e : j = id
    · subst e; rw [up_same] at hj; cases hj; exact ⟨r', by simp, hgen, hbody⟩
    · rw [up_ne _ _ _ e] at hj
      obtain ⟨r, a1, a2, a3⟩ := R.hp j ob hj
      refine ⟨r, by rw [up_ne _ _ _ e]; exact a1, a2, a3.mono hok (fun _ h => h) hl fun b hb hlv => ?_⟩
      obtain ⟨q1, q2⟩ := hoth j ob r b e hj hlv a1 hb
      exact hkeep b q1 q2
  · intro j hj
    by_cases e : j = id
    · subst e; rw [up_same] at hj; cases hj
    · rw [up_ne _ _ _ e] at hj ⊢; exact R.hn j hj
  · intro i j oi oj ri rj b hi hj hli hlj hri hrj hbi hbj
    by_cases ei : i = id <;> by_cases ej : j = id
    · rw [ei, ej]
    · subst ei
      rw [up_same] at hi hri; cases hi; cases hri
      rw [up_ne _ _ _ ej] at hj hrj
      obtain ⟨q1, q2⟩ := hoth j oj rj b ej hj hlj hrj hbj
      rcases hnew b hbi hli with q | ⟨ob, r, p1, p2, p3, p4⟩
      · omega
      · exact absurd p4 (q2 ob r p1 p2 p3)
    · subst ej
      rw [up_same] at hj hrj; cases hj; cases hrj
      rw [up_ne _ _ _ ei] at hi hri
      obtain ⟨q1, q2⟩ := hoth i oi ri b ei hi hli hri hbi
      rcases hnew b hbj hlj with q | ⟨ob, r, p1, p2, p3, p4⟩
      · omega
      · exact absurd p4 (q2 ob r p1 p2 p3)
    · rw [up_ne _ _ _ ei] at hi hri
      rw [up_ne _ _ _ ej] at hj hrj
      exact R.inj i j oi oj ri rj b hi hj hli hlj hri hrj hbi hbj
  · intro b j ob r hb hj hlv hr hbb
    by_cases e : j = id
    · subst e
      rw [up_same] at hj hr; cases hj; cases hr
      rcases hnew b hbb hlv with q | ⟨ob, r, p1, p2, p3, p4⟩
      · have := R.okl b hb; omega
      · exact R.okn b j ob r hb p1 p2 p3 p4
    · rw [up_ne _ _ _ e] at hj hr
      exact R.okn b j ob r hb hj hlv hr hbb
  · refine ⟨h1.trans R.fr.os, h2.trans R.fr.tape, h3.trans R.fr.output, Nat.le_trans R.fr.size h4, fun k hk hn => ?_⟩
    refine (hkeep k (Nat.lt_of_lt_of_le hk R.fr.size) fun ob r ho hlv hr hb => ?_).trans (R.fr.block k hk hn)
    rcases R.ph id ob r k ho hlv hr hb with q | q
    · exact hn q
    · omega
  · intro j ob r b hj hlv hr hb
    by_cases e : j = id
    · subst e
      rw [up_same] at hj hr; cases hj; cases hr
      rcases hnew b hb hlv with q | ⟨ob, r, p1, p2, p3, p4⟩
      · exact .inr (Nat.le_trans R.fr.size q)
      · exact R.ph j ob r b p1 p2 p3 p4
    · rw [up_ne _ _ _ e] at hj hr
      exact R.ph j ob r b hj hlv hr hb
  · intro j r0 r hp hr hg
    by_cases e : j = id
    · subst e
      rw [up_same] at hr; cases hr
      cases ho : h j with
      | none => exact absurd ho (R.pl j r0 hp)
      | some ob =>
        obtain ⟨r, q1, _, _⟩ := R.hp j ob ho
        rcases hage r q1 with e | e
        · subst e; exact R.pn j r0 _ hp q1 hg
        · omega
    · rw [up_ne _ _ _ e] at hr; exact R.pn j r0 r hp hr hg
  · intro j r0 hp
    by_cases e : j = id
    · subst e; rw [up_same]; simp
    · rw [up_ne _ _ _ e]; exact R.pl j r0 hp

/-- An owned row is given up: whatever it holds may be read from here on, and is never written again. -/
theorem Rel.drop (R : Rel Γ s h a w ok lv) (id : Nat) (ob : Ob) (ho : h id = some ob) :
    Rel Γ s (up h id (some ⟨ob.gen, .dead⟩)) a w (fun b => ok b ∨ (ob.body.live = true ∧ ∃ r, lv id = some r ∧ r.blk = some b)) lv := by
  obtain ⟨r0, a1, a2, a3⟩ := R.hp id ob ho
  have hl := Later.refl lv
  refine ⟨R.tm, R.df, fun t v hv => (R.sl t v hv).mono (fun _ _ => rfl) (fun _ h => .inl h) hl, ?_, ?_, ?_, ?_, ?_, R.fr, ?_, ?_, R.pn, ?_⟩
  · intro j oj hj
    by_cases e : j = id
    · subst e; rw [up_same] at hj; cases hj; exact ⟨r0, a1, a2, trivial⟩
    · rw [up_ne _ _ _ e] at hj
      obtain ⟨r, b1, b2, b3⟩ := R.hp j oj hj
      exact ⟨r, b1, b2, b3.mono (fun _ _ => rfl) (fun _ h => .inl h) hl (fun _ _ _ => rfl)⟩
  · intro j hj
    by_cases e : j = id
    · subst e; rw [up_same] at hj; cases hj
    · rw [up_ne _ _ _ e] at hj; exact R.hn j hj
  · intro i j oi oj ri rj b hi hj hli hlj hri hrj hbi hbj
    by_cases ei : i = id
    · subst ei; rw [up_same] at hi; cases hi; cases hli
    · by_cases ej : j = id
      · subst ej; rw [up_same] at hj; cases hj; cases hlj
      · rw [up_ne _ _ _ ei] at hi; rw [up_ne _ _ _ ej] at hj
        exact R.inj i j oi oj ri rj b hi hj hli hlj hri hrj hbi hbj
  · rintro b (hb | ⟨hlv, r, hr, hb⟩)
    · exact R.okl b hb
    · rw [a1] at hr; cases hr; exact a3.lt hlv hb
  · intro b j oj r hb hj hlv hr hbb
    by_cases e : j = id
    · subst e; rw [up_same] at hj; cases hj; cases hlv
    · rw [up_ne _ _ _ e] at hj
      rcases hb with hb | ⟨hl2, r2, hr2, hb2⟩
      · exact R.okn b j oj r hb hj hlv hr hbb
      · exact e (R.inj j id oj ob r r2 b hj ho hlv hl2 hr hr2 hbb hb2)
  · rintro b (hb | ⟨hlv, r, hr, hb⟩)
    · exact R.pv b hb
    · exact .inr (R.ph id ob r b ho hlv hr hb)
  · intro j oj r b hj hlv hr hb
    by_cases e : j = id
    · subst e; rw [up_same] at hj; cases hj; cases hlv
    · rw [up_ne _ _ _ e] at hj; exact R.ph j oj r b hj hlv hr hb
  · intro j r0 hp
    by_cases e : j = id
    · subst e; rw [up_same]; simp
    · rw [up_ne _ _ _ e]; exact R.pl j r0 hp
end
end Go.Eng
