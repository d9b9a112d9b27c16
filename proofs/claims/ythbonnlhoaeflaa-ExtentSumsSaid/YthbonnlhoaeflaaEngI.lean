/-
  The engine, part I: what is promised of a function, and a call by that promise.
-/
import Derived.Test.YthbonnlhoaeflaaEngH
set_option linter.unusedVariables false
set_option linter.unusedSimpArgs false
namespace Go.Eng
open Go.RowKit Go.Lib

def hget (l : List (Nat × Ob)) (id : Nat) : Option Ob :=
  match l with
  | [] => none
  | p :: r => if p.1 = id then some p.2 else hget r id

/-- What a caller brings: rows of its own, and what may be read. -/
structure InRel (w : World) (ok : Nat → Prop) (lv : Nat → Option Reg) (h : Nat → Option Ob) : Prop where
  hp : ∀ id ob, h id = some ob → ∃ r, lv id = some r ∧ r.gen = ob.gen ∧ BodyAt w ok lv r ob.body
  hn : ∀ id, h id = none → lv id = none
  inj : ∀ i j oi oj ri rj b, h i = some oi → h j = some oj → oi.body.live = true → oj.body.live = true → lv i = some ri → lv j = some rj → ri.blk = some b → rj.blk = some b → i = j
  okl : ∀ b, ok b → b < w.heap.size
  okn : ∀ b id ob r, ok b → h id = some ob → ob.body.live = true → lv id = some r → r.blk ≠ some b

/-- The blocks of these rows. -/
def Own (lv : Nat → Option Reg) (h : Nat → Option Ob) (b : Nat) : Prop := ∃ i ob r, h i = some ob ∧ ob.body.live = true ∧ lv i = some r ∧ r.blk = some b

/-- What a caller gets back. -/
structure OutRel (w w' : World) (ok ok' : Nat → Prop) (lv lv' : Nat → Option Reg) (hA hB : Nat → Option Ob) (pins : Nat → Prop) : Prop where
  os : w'.os = w.os
  tape : w'.tape = w.tape
  output : w'.output = w.output
  size : w.heap.size ≤ w'.heap.size
  block : ∀ k, k < w.heap.size → ¬ Own lv hA k → w'.heap[k]? = w.heap[k]?
  hp : ∀ id ob, hB id = some ob → ob.gen = 0 ∧ ∃ r, lv' id = some r ∧ r.gen = 0 ∧ BodyAt w' ok' lv' r ob.body
  inj : ∀ i j oi oj ri rj b, hB i = some oi → hB j = some oj → oi.body.live = true → oj.body.live = true → lv' i = some ri → lv' j = some rj → ri.blk = some b → rj.blk = some b → i = j
  okl : ∀ b, ok' b → b < w'.heap.size
  okn : ∀ b id ob r, ok' b → hB id = some ob → ob.body.live = true → lv' id = some r → r.blk ≠ some b
  pv : ∀ b, ok' b → ok b ∨ Own lv hA b ∨ w.heap.size ≤ b
  ph : ∀ id ob r b, hB id = some ob → ob.body.live = true → lv' id = some r → r.blk = some b → Own lv hA b ∨ w.heap.size ≤ b
  pn : ∀ id r, pins id → hB id ≠ none → lv' id = some r → lv id = some r

/-- **What is promised of function f**: brought the rows 'hA' and the arguments 'args', it returns 'res', and the rows are then 'hB'; those named in 'pins' lie where they lay. -/
def Spec (P : Program) (f : Nat) (pins : List Nat) (hA : List (Nat × Ob)) (args : List S) (hB : List (Nat × Ob)) (res : S) : Prop :=
  ∀ (w : World) (ok : Nat → Prop) (lv : Nat → Option Reg) (vs : List Value), InRel w ok lv (hget hA) → vs.length = args.length → (∀ (j : Nat) (s : S) (v : Value), args[j]? = some s → vs[j]? = some v → RepS w ok lv s v) →
    Calls P f vs.toArray w fun e w' => ∃ v ok' lv', e = .returned v ∧ RepS w' ok' lv' res v ∧ OutRel w w' ok ok' lv lv' (hget hA) (hget hB) (· ∈ pins)

/-! ### a caller's state and what the promise speaks of -/

/-- Is this reference of the row's age? -/
def cur (h : Nat → Option Ob) (id g : Nat) : Prop := ∃ ob, h id = some ob ∧ ob.gen = g

def arg0 (h : Nat → Option Ob) (σ : Nat → Option Nat) : S → S → Prop
  | .d (.sl sz rows), .view id g off len => ∃ g' sz' rs, h id = some ⟨g', .arr sz' rs⟩ ∧ g = g' ∧ sz = sz' ∧ off + len ≤ rs.length ∧ rows = (rs.drop off).take len
  | .d (.sl _ rows), .d (.v (.slice none 0 0)) => rows = []
  | .d x, .d y => x = y
  | .view i 0 off len, .view id g off' len' => σ i = some id ∧ off = off' ∧ len = len' ∧ cur h id g
  | .ptr i 0 row cell, .ptr id g row' cell' => σ i = some id ∧ row = row' ∧ cell = cell' ∧ cur h id g
  | .pat cs, .pat cs' => cs = cs'
  | .any, _ => True
  | _, _ => False

def args0 (h : Nat → Option Ob) (σ : Nat → Option Nat) : List S → List S → Prop
  | [], [] => True
  | f :: fs, x :: xs => arg0 h σ f x ∧ args0 h σ fs xs
  | _, _ => False

def arg1 (h : Nat → Option Ob) (σ : Nat → Option Nat) : S → S → Prop
  | .agg fs, .agg xs => args0 h σ fs xs ∧ fs.all S.one = true
  | .clo f fs, .clo g xs => f = g ∧ args0 h σ fs xs
  | f, x => arg0 h σ f x

def args1 (h : Nat → Option Ob) (σ : Nat → Option Nat) : List S → List S → Prop
  | [], [] => True
  | f :: fs, x :: xs => arg1 h σ f x ∧ args1 h σ fs xs
  | _, _ => False

def body0 (h : Nat → Option Ob) (σ : Nat → Option Nat) : Body → Body → Prop
  | .arr sz rows, .arr sz' rows' => sz = sz' ∧ rows = rows'
  | .box fs, .box xs => args0 h σ fs xs ∧ fs.all S.one = true
  | _, _ => False

def lent0 : S → S → List Nat
  | .d (.sl _ _), .view id _ _ _ => [id]
  | _, _ => []
def lents0 : List S → List S → List Nat
  | f :: fs, x :: xs => lent0 f x ++ lents0 fs xs
  | _, _ => []
def lent1 : S → S → List Nat
  | .agg fs, .agg xs => lents0 fs xs
  | .clo _ fs, .clo _ xs => lents0 fs xs
  | f, x => lent0 f x
def lents1 : List S → List S → List Nat
  | f :: fs, x :: xs => lent1 f x ++ lents1 fs xs
  | _, _ => []
def lentB : Body → Body → List Nat
  | .box fs, .box xs => lents0 fs xs
  | _, _ => []

section
variable {Γ : Ctx} {s : Nat → S} {h : Nat → Option Ob} {a : Act} {w : World} {ok : Nat → Prop} {lv : Nat → Option Reg}

/-- Where the promise's rows lie, told by the caller's. -/
def lvF (lv : Nat → Option Reg) (σ : Nat → Option Nat) (hA : Nat → Option Ob) : Nat → Option Reg := fun i =>
  match hA i with
  | none => none
  | some _ => match σ i with
    | none => none
    | some id => (lv id).map fun r => { r with gen := 0 }

theorem arg0_rep (R : Rel Γ s h a w ok lv) {σ : Nat → Option Nat} {hA : Nat → Option Ob} {okc : Nat → Prop} (h1 : ∀ b, ok b → okc b) (hσ : ∀ i id, σ i = some id → hA i ≠ none)
    {f x : S} {v : Value} (hx : RepS w ok lv x v) (hm : arg0 h σ f x) (hl : ∀ id ∈ lent0 f x, ∀ r b, lv id = some r → r.blk = some b → okc b) : RepS w okc (lvF lv σ hA) f v := by
  unfold arg0 at hm
  split at hm
  · obtain ⟨g', sz', rs, e1, e2, e3, e4, e5⟩ := hm
    subst e3 e5
    exact .d _ _ (view_pure R hx e1 e2 e4 h1 (hl _ (by simp [lent0])))
  · subst hm
    have e := hx.dv
    subst e
    exact .d _ _ (.nil _)
  · subst hm
    cases hx with | d _ _ hd => exact .d _ _ (hd.mono (fun _ _ => rfl) h1)
  · rename_i i off len id g off' len'
    obtain ⟨e1, e2, e3, ob, e4, e5⟩ := hm
    subst e2 e3
    obtain ⟨r, q1, q2, _, q4⟩ := R.view hx e4 e5.symm
    have ho := hσ i id e1
    cases hAi : hA i with
    | none => exact absurd hAi ho
    | some oA =>
      refine .view _ _ _ _ _ { r with gen := 0 } ?_ (by simp [lvF, hAi, e1, q1]) (Nat.le_refl _) (fun _ => q4)
      cases hx with | view _ _ _ _ _ _ hone => exact hone
  · rename_i i row cell id g row' cell'
    obtain ⟨e1, e2, e3, ob, e4, e5⟩ := hm
    subst e2 e3
    obtain ⟨r, q1, q2, _, q4⟩ := R.ptr hx e4 e5.symm
    have ho := hσ i id e1
    cases hAi : hA i with
    | none => exact absurd hAi ho
    | some oA =>
      refine .ptr _ _ _ _ _ { r with gen := 0 } ?_ (by simp [lvF, hAi, e1, q1]) (Nat.le_refl _) (fun _ => q4)
      cases hx with | ptr _ _ _ _ _ _ hone => exact hone
  · subst hm
    cases hx with
    | pat _ b o us hb g1 g2 => exact .pat _ b o us (fun e => h1 _ (hb e)) g1 (fun k y hk => (g2 k y hk).mono (fun _ _ => rfl) h1)
  · exact .any _
  · exact hm.elim

theorem args0_get {σ : Nat → Option Nat} : ∀ {fs xs : List S}, args0 h σ fs xs → fs.length = xs.length ∧ ∀ (k : Nat) (f x : S), fs[k]? = some f → xs[k]? = some x → arg0 h σ f x ∧ ∀ id ∈ lent0 f x, id ∈ lents0 fs xs
  | [], [], _ => ⟨rfl, fun k f x h1 => by simp at h1⟩
  | f :: fs, x :: xs, hm => by
    obtain ⟨g1, g2⟩ := args0_get hm.2
    refine ⟨by simp [g1], fun k f' x' h1 h2 => ?_⟩
    cases k with
    | zero => simp at h1 h2; subst h1 h2; exact ⟨hm.1, fun id hid => by simp [lents0, hid]⟩
    | succ k =>
      obtain ⟨q1, q2⟩ := g2 k f' x' (by simpa using h1) (by simpa using h2)
      exact ⟨q1, fun id hid => by simp [lents0, q2 id hid]⟩
  | [], _ :: _, hm => hm.elim
  | _ :: _, [], hm => hm.elim

theorem arg1_rep (R : Rel Γ s h a w ok lv) {σ : Nat → Option Nat} {hA : Nat → Option Ob} {okc : Nat → Prop} (h1 : ∀ b, ok b → okc b) (hσ : ∀ i id, σ i = some id → hA i ≠ none)
    {f x : S} {v : Value} (hx : RepS w ok lv x v) (hm : arg1 h σ f x) (hl : ∀ id ∈ lent1 f x, ∀ r b, lv id = some r → r.blk = some b → okc b) : RepS w okc (lvF lv σ hA) f v := by
  unfold arg1 at hm
  split at hm
  · rename_i fs xs
    obtain ⟨g1, g2⟩ := args0_get hm.1
    cases hx with
    | agg _ us hlen ho hh =>
      refine .agg fs us (by omega) ho (fun k f u hk hu => ?_)
      have hlt : k < xs.length := by rw [← g1]; exact (List.getElem?_eq_some_iff.1 hk).1
      obtain ⟨q1, q2⟩ := g2 k f _ hk (List.getElem?_eq_getElem hlt)
      exact arg0_rep R h1 hσ (hh k _ u (List.getElem?_eq_getElem hlt) hu) q1 (fun id hid => hl id (q2 id hid))
  · rename_i f fs g xs
    obtain ⟨rfl, hm⟩ := hm
    obtain ⟨g1, g2⟩ := args0_get hm
    cases hx with
    | clo _ _ us hlen hh =>
      refine .clo f fs us (by omega) (fun k f u hk hu => ?_)
      have hlt : k < xs.length := by rw [← g1]; exact (List.getElem?_eq_some_iff.1 hk).1
      obtain ⟨q1, q2⟩ := g2 k f _ hk (List.getElem?_eq_getElem hlt)
      exact arg0_rep R h1 hσ (hh k _ u (List.getElem?_eq_getElem hlt) hu) q1 (fun id hid => hl id (q2 id hid))
  · rename_i hno hno2
    refine arg0_rep R h1 hσ hx hm (fun id hid => hl id ?_)
    unfold lent1
    split
    · rename_i fs xs; exact absurd rfl (hno fs xs rfl)
    · rename_i f fs g xs; exact absurd rfl (hno2 f fs g xs rfl)
    · exact hid

theorem args1_get {σ : Nat → Option Nat} : ∀ {fs xs : List S}, args1 h σ fs xs → fs.length = xs.length ∧ ∀ (k : Nat) (f x : S), fs[k]? = some f → xs[k]? = some x → arg1 h σ f x ∧ ∀ id ∈ lent1 f x, id ∈ lents1 fs xs
  | [], [], _ => ⟨rfl, fun k f x h1 => by simp at h1⟩
  | f :: fs, x :: xs, hm => by
    obtain ⟨g1, g2⟩ := args1_get hm.2
    refine ⟨by simp [g1], fun k f' x' h1 h2 => ?_⟩
    cases k with
    | zero => simp at h1 h2; subst h1 h2; exact ⟨hm.1, fun id hid => by simp [lents1, hid]⟩
    | succ k =>
      obtain ⟨q1, q2⟩ := g2 k f' x' (by simpa using h1) (by simpa using h2)
      exact ⟨q1, fun id hid => by simp [lents1, q2 id hid]⟩
  | [], _ :: _, hm => hm.elim
  | _ :: _, [], hm => hm.elim

/-! ### what comes back, under the caller's names -/

def ren0 (σ : Nat → Option Nat) (gm : Nat → Nat) : S → S
  | .d x => .d x
  | .pat cs => .pat cs
  | .view i _ off len => match σ i with
    | some id => .view id (gm i) off len
    | none => .any
  | .ptr i _ row cell => match σ i with
    | some id => .ptr id (gm i) row cell
    | none => .any
  | _ => .any
def ren1 (σ : Nat → Option Nat) (gm : Nat → Nat) : S → S
  | .agg cs => .agg (cs.map (ren0 σ gm))
  | .clo f cs => .clo f (cs.map (ren0 σ gm))
  | x => ren0 σ gm x
def renS (σ : Nat → Option Nat) (gm : Nat → Nat) : S → S
  | .tup cs => .tup (cs.map (ren1 σ gm))
  | x => ren1 σ gm x
def renB (σ : Nat → Option Nat) (gm : Nat → Nat) : Body → Body
  | .box cs => .box (cs.map (ren0 σ gm))
  | b => b

theorem ren0_rep {w : World} {ok : Nat → Prop} {lv lvN : Nat → Option Reg} {σ : Nat → Option Nat} {gm : Nat → Nat} (hn : ∀ i id r, σ i = some id → lv i = some r → r.gen = 0 ∧ lvN id = some { r with gen := gm i })
    {x : S} {v : Value} (hx : RepS w ok lv x v) : RepS w ok lvN (ren0 σ gm x) v := by
  cases hx with
  | d x v h => exact .d x v h
  | pat cs b o us hb h1 h2 => exact .pat cs b o us hb h1 h2
  | view i g off len v r hone hl hg hp =>
    simp only [ren0]
    cases hs : σ i with
    | none => exact .any _
    | some id =>
      obtain ⟨q1, q2⟩ := hn i id r hs hl
      exact .view _ _ _ _ _ _ hone q2 (Nat.le_refl _) (fun _ => hp (by omega))
  | ptr i g row cell v r hone hl hg hp =>
    simp only [ren0]
    cases hs : σ i with
    | none => exact .any _
    | some id =>
      obtain ⟨q1, q2⟩ := hn i id r hs hl
      exact .ptr _ _ _ _ _ _ hone q2 (Nat.le_refl _) (fun _ => hp (by omega))
  | agg => exact .any _
  | tup => exact .any _
  | clo => exact .any _
  | any => exact .any _

theorem ren1_rep {w : World} {ok : Nat → Prop} {lv lvN : Nat → Option Reg} {σ : Nat → Option Nat} {gm : Nat → Nat} (hn : ∀ i id r, σ i = some id → lv i = some r → r.gen = 0 ∧ lvN id = some { r with gen := gm i })
    {x : S} {v : Value} (hx : RepS w ok lv x v) : RepS w ok lvN (ren1 σ gm x) v := by
  by_cases hagg : ∃ cs, x = .agg cs
  · obtain ⟨cs, rfl⟩ := hagg
    cases hx with
    | agg _ us hl ho hh =>
      refine .agg _ us (by simpa using hl) ho (fun k y u hk hu => ?_)
      rw [List.getElem?_map] at hk
      cases hq : cs[k]? with
      | none => rw [hq] at hk; cases hk
      | some z => rw [hq] at hk; simp at hk; subst hk; exact ren0_rep hn (hh k z u hq hu)
  · by_cases hclo : ∃ f cs, x = .clo f cs
    · obtain ⟨f, cs, rfl⟩ := hclo
      cases hx with
      | clo _ _ us hl hh =>
        refine .clo f _ us (by simpa using hl) (fun k y u hk hu => ?_)
        rw [List.getElem?_map] at hk
        cases hq : cs[k]? with
        | none => rw [hq] at hk; cases hk
        | some z => rw [hq] at hk; simp at hk; subst hk; exact ren0_rep hn (hh k z u hq hu)
    · have : ren1 σ gm x = ren0 σ gm x := by cases x <;> first | rfl | exact absurd ⟨_, rfl⟩ hagg | exact absurd ⟨_, _, rfl⟩ hclo
      rw [this]; exact ren0_rep hn hx

theorem renS_rep {w : World} {ok : Nat → Prop} {lv lvN : Nat → Option Reg} {σ : Nat → Option Nat} {gm : Nat → Nat} (hn : ∀ i id r, σ i = some id → lv i = some r → r.gen = 0 ∧ lvN id = some { r with gen := gm i })
    {x : S} {v : Value} (hx : RepS w ok lv x v) : RepS w ok lvN (renS σ gm x) v := by
  by_cases htup : ∃ cs, x = .tup cs
  · obtain ⟨cs, rfl⟩ := htup
    cases hx with
    | tup _ us hl hh =>
      refine .tup _ us (by simpa using hl) (fun k y u hk hu => ?_)
      rw [List.getElem?_map] at hk
      cases hq : cs[k]? with
      | none => rw [hq] at hk; cases hk
      | some z => rw [hq] at hk; simp at hk; subst hk; exact ren1_rep hn (hh k z u hq hu)
  · have : renS σ gm x = ren1 σ gm x := by cases x <;> first | rfl | exact absurd ⟨_, rfl⟩ htup
    rw [this]; exact ren1_rep hn hx

theorem renB_at {w : World} {ok : Nat → Prop} {lv lvN : Nat → Option Reg} {σ : Nat → Option Nat} {gm : Nat → Nat} (hn : ∀ i id r, σ i = some id → lv i = some r → r.gen = 0 ∧ lvN id = some { r with gen := gm i })
    {r : Reg} {B : Body} (hB : BodyAt w ok lv r B) (g : Nat) : BodyAt w ok lvN { r with gen := g } (renB σ gm B) := by
  have conv : ∀ b L, InBlk w ok lv b r L → InBlk w ok lvN b { r with gen := g } (L.map (ren0 σ gm)) := by
    rintro b L ⟨c, e, fz, h1, h2, h3, h4, h5⟩
    refine ⟨c, e, fz, h1, h2, h3, by simpa using h4, fun k y hk => ?_⟩
    rw [List.getElem?_map] at hk
    cases hq : L[k]? with
    | none => rw [hq] at hk; cases hk
    | some z =>
      rw [hq] at hk; simp at hk; subst hk
      obtain ⟨u, a1, a2, a3⟩ := h5 k z hq
      exact ⟨u, a1, a2, ren0_rep hn a3⟩
  cases B with
  | dead => trivial
  | arr sz rows =>
    obtain ⟨h1, h2, h3, h4⟩ := hB
    refine ⟨h1, h2, h3, ?_⟩
    cases hr : r.blk with
    | none => rw [hr] at h4; exact h4
    | some b =>
      rw [hr] at h4
      have := conv b _ h4
      rw [List.map_map] at this
      exact this
  | box cs =>
    obtain ⟨h1, b, h2, h3⟩ := hB
    exact ⟨by simpa using h1, b, h2, conv b cs h3⟩

/-! ### a value that leads to no memory but the rows' own -/

def S.flat : S → Prop
  | .d (.v _) => True
  | .d (.sl _ rows) => rows = []
  | .view _ _ _ _ => True
  | .ptr _ _ _ _ => True
  | .pat cs => cs = []
  | .any => True
  | _ => False
def S.flat1 : S → Prop
  | .agg cs => ∀ c ∈ cs, c.flat
  | x => x.flat
def S.flat2 : S → Prop
  | .tup cs => ∀ c ∈ cs, c.flat1
  | x => x.flat1
def Body.flat : Body → Prop
  | .dead => True
  | .arr _ rows => ∀ r ∈ rows, ∀ d ∈ r, ∃ x, d = D.v x
  | .box cs => ∀ c ∈ cs, c.flat

theorem RepS.of_flat {w : World} {ok ok2 : Nat → Prop} {lv : Nat → Option Reg} {x : S} {v : Value} (hx : RepS w ok lv x v) (hf : x.flat) : RepS w ok2 lv x v := by
  cases hx with
  | d x v h =>
    cases h with
    | v => exact .d _ _ (.v _)
    | nil => exact .d _ _ (.nil _)
    | emp _ a cap => exact .d _ _ (.emp _ _ _)
    | sn => exact hf.elim
    | sl _ rows b o cap us =>
      have : rows = [] := hf
      subst this
      exact .d _ _ (.sl _ [] b o cap us (by simp) (by simp) (by simp) (by simp) (by simp))
  | pat cs b o us =>
    have : cs = [] := hf
    subst this
    exact .pat [] b o us (by simp) (by simp) (by simp)
  | view _ _ _ _ _ _ h1 h2 h3 h4 => exact .view _ _ _ _ _ _ h1 h2 h3 h4
  | ptr _ _ _ _ _ _ h1 h2 h3 h4 => exact .ptr _ _ _ _ _ _ h1 h2 h3 h4
  | agg => exact hf.elim
  | tup => exact hf.elim
  | clo => exact hf.elim
  | any => exact .any _

theorem RepS.of_flat1 {w : World} {ok ok2 : Nat → Prop} {lv : Nat → Option Reg} {x : S} {v : Value} (hx : RepS w ok lv x v) (hf : x.flat1) : RepS w ok2 lv x v := by
  by_cases hagg : ∃ cs, x = .agg cs
  · obtain ⟨cs, rfl⟩ := hagg
    cases hx with
    | agg _ us hl ho hh => exact .agg _ us hl ho (fun k y u hk hu => (hh k y u hk hu).of_flat (hf y (List.mem_of_getElem? hk)))
  · exact hx.of_flat (by cases x <;> first | exact hf | exact absurd ⟨_, rfl⟩ hagg)

theorem RepS.of_flat2 {w : World} {ok ok2 : Nat → Prop} {lv : Nat → Option Reg} {x : S} {v : Value} (hx : RepS w ok lv x v) (hf : x.flat2) : RepS w ok2 lv x v := by
  by_cases htup : ∃ cs, x = .tup cs
  · obtain ⟨cs, rfl⟩ := htup
    cases hx with
    | tup _ us hl hh => exact .tup _ us hl (fun k y u hk hu => (hh k y u hk hu).of_flat1 (hf y (List.mem_of_getElem? hk)))
  · exact hx.of_flat1 (by cases x <;> first | exact hf | exact absurd ⟨_, rfl⟩ htup)

theorem BodyAt.of_flat {w : World} {ok ok2 : Nat → Prop} {lv : Nat → Option Reg} {r : Reg} {B : Body} (hB : BodyAt w ok lv r B) (hf : B.flat) : BodyAt w ok2 lv r B := by
  have conv : ∀ b (L : List S), (∀ c ∈ L, c.flat) → InBlk w ok lv b r L → InBlk w ok2 lv b r L := by
    rintro b L hL ⟨c, e, fz, h1, h2, h3, h4, h5⟩
    refine ⟨c, e, fz, h1, h2, h3, h4, fun k y hk => ?_⟩
    obtain ⟨u, a1, a2, a3⟩ := h5 k y hk
    exact ⟨u, a1, a2, a3.of_flat (hL y (List.mem_of_getElem? hk))⟩
  cases B with
  | dead => trivial
  | arr sz rows =>
    obtain ⟨h1, h2, h3, h4⟩ := hB
    refine ⟨h1, h2, h3, ?_⟩
    cases hr : r.blk with
    | none => rw [hr] at h4; exact h4
    | some b =>
      rw [hr] at h4
      refine conv b _ (fun c hc => ?_) h4
      obtain ⟨d, hd, rfl⟩ := List.mem_map.1 hc
      obtain ⟨row, hrow, hd'⟩ := List.mem_flatten.1 hd
      obtain ⟨x, rfl⟩ := hf row hrow d hd'
      trivial
  | box cs =>
    obtain ⟨h1, b, h2, h3⟩ := hB
    exact ⟨h1, b, h2, conv b cs hf h3⟩

/-! ### a call -/

/-- The promise's names of rows, told to the caller's: those of these rows alone. -/
def only (σ : Nat → Option Nat) (hA : Nat → Option Ob) : Nat → Option Nat := fun i => match hA i with
  | none => none
  | some _ => σ i

/-- What a call asks of the caller's state: 'σ' tells which row of the caller's each row of the promise is; 'L' are the rows that are lent, 'gone' those that are given up. -/
structure CallOk (h : Nat → Option Ob) (xs : List S) (pins : List Nat) (hA : List (Nat × Ob)) (args : List S) (hB : List (Nat × Ob)) (res : S) (σ : Nat → Option Nat) (keep : Bool) (L gone : List Nat) : Prop where
  a1 : args1 h (only σ (hget hA)) args xs
  a2 : ∀ i ob, hget hA i = some ob → ob.gen = 0 ∧ ∃ id ob', σ i = some id ∧ h id = some ob' ∧ body0 h (only σ (hget hA)) ob.body ob'.body ∧ (∀ j ∈ lentB ob.body ob'.body, j ∈ L)
  a3 : ∀ i j id, hget hA i ≠ none → hget hA j ≠ none → σ i = some id → σ j = some id → i = j
  a4 : ∀ id ∈ lents1 args xs, id ∈ L
  a5 : ∀ id ∈ L, ∀ i, hget hA i ≠ none → σ i ≠ some id
  a6 : ∀ i, hget hB i ≠ none → ∃ id, σ i = some id
  a7 : ∀ i j id, hget hB i ≠ none → hget hB j ≠ none → σ i = some id → σ j = some id → i = j
  a8 : ∀ i ∈ pins, hget hA i ≠ none ∧ hget hB i ≠ none
  a9 : keep = true → res.flat2 ∧ ∀ i ob, hget hB i = some ob → ob.body.flat
  b1 : ∀ i id, hget hA i ≠ none → i ∉ pins → σ i = some id → id ∈ gone
  b2 : keep = false → ∀ id ∈ L, id ∈ gone
  c0 : ∀ i id, σ i = some id → hget hA i ≠ none ∨ hget hB i ≠ none

/-- The rows' ages behind a call. -/
def gmOf (h : Nat → Option Ob) (pins : List Nat) (σ : Nat → Option Nat) : Nat → Nat := fun i => match σ i with
  | none => 0
  | some id => if i ∈ pins then (match h id with | some ob => ob.gen | none => 0) else nextGen (h id)

/-- The rows behind a call. -/
def hN (h : Nat → Option Ob) (pins : List Nat) (hB : List (Nat × Ob)) (σ : Nat → Option Nat) (gone : List Nat) : List (Nat × Ob) → Nat → Option Ob
  | [], id => if id ∈ gone then (h id).map (fun ob => ⟨ob.gen, .dead⟩) else h id
  | p :: r, id => if σ p.1 = some id then some ⟨gmOf h pins σ p.1, renB (only σ (hget hB)) (gmOf h pins σ) p.2.body⟩ else hN h pins hB σ gone r id

def wrN (h : Nat → Option Ob) (pins : List Nat) (hB : List (Nat × Ob)) (σ : Nat → Option Nat) (gone : List Nat) : List (Nat × Ob) :=
  (gone.filterMap fun id => (h id).map fun ob => (id, ⟨ob.gen, .dead⟩)) ++ hB.reverse.filterMap fun p => (σ p.1).map fun id => (id, ⟨gmOf h pins σ p.1, renB (only σ (hget hB)) (gmOf h pins σ) p.2.body⟩)
end
end Go.Eng
