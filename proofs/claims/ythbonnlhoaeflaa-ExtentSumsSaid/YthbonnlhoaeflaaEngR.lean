/-
  The engine, part R: from state to state without a step, and the rules by which a body is carried out on written states.
-/
import Derived.Test.YthbonnlhoaeflaaEngQ
set_option linter.unusedVariables false
set_option linter.unusedSimpArgs false
namespace Go.Eng
open Go.RowKit Go.Lib

theorem LE_match {pins : List Nat} {st st' : St} (σ : Nat → Option Nat) (L : List Nat) (M : Match (hget st.h) (st'.s.map fun p => get st.s p.1) st'.h (st'.s.map (·.2)) σ L)
    (hpin : ∀ i ∈ pins, hget st'.h i ≠ none ∧ σ i = some i ∧ ∃ ob, hget st.h i = some ob ∧ ob.gen = 0) : LE pins st st' := by
  intro Γ a w ok lv hp R
  obtain ⟨I, al, hrp⟩ := match_in R M
  have lvFget : ∀ i r, lvF lv σ (hget st'.h) i = some r → ∃ id r0, σ i = some id ∧ lv id = some r0 ∧ r = { r0 with gen := 0 } := by
    intro i r hr
    simp only [lvF] at hr
    split at hr
    · cases hr
    · split at hr
      · cases hr
      · rename_i id hid
        cases hq : lv id with
        | none => rw [hq] at hr; cases hr
        | some r0 => rw [hq] at hr; simp at hr; exact ⟨id, r0, hid, hq, hr.symm⟩
  have hlive : ∀ (B B' : Body), body0 (hget st.h) (only σ (hget st'.h)) B B' → B'.live = true := by
    intro B B' hb
    unfold body0 at hb
    split at hb
    · rfl
    · rfl
    · exact hb.elim
  refine ⟨okL (hget st.h) ok lv L, lvF lv σ (hget st'.h), R.tm, R.df, ?_, I.hp, I.hn, I.inj, I.okl, I.okn, R.fr, ?_, ?_, ?_, ?_⟩
  · intro t v hv
    have : ∀ (l : List (Nat × S)), (get l t = .any) ∨ ∃ j : Nat, (l.map (·.2))[j]? = some (get l t) ∧ (l.map fun p => get st.s p.1)[j]? = some (get st.s t) := by
      intro l
      induction l with
      | nil => exact .inl rfl
      | cons p r ih =>
        simp only [get]
        by_cases e : p.1 = t
        · subst e; exact .inr ⟨0, by simp, by simp⟩
        · rw [if_neg e]
          rcases ih with h | ⟨j, h1, h2⟩
          · exact .inl h
          · exact .inr ⟨j + 1, by simpa using h1, by simpa using h2⟩
    rcases this st'.s with h | ⟨j, h1, h2⟩
    · rw [h]; exact .any _
    · exact hrp j _ _ v h1 h2 (R.sl t v hv)
  · rintro b (hb | ⟨id, _, ob, r, g1, g2, g3, g4⟩)
    · exact R.pv b hb
    · exact .inr (R.ph id ob r b g1 g2 g3 g4)
  · intro i ob r b hi hli hr hrb
    obtain ⟨id, r0, e1, e2, rfl⟩ := lvFget i r hr
    obtain ⟨_, id', ob', f1, f2, f3, _⟩ := M.a2 i ob hi
    rw [e1] at f1; cases f1
    exact R.ph id ob' r0 b f2 (hlive _ _ f3) e2 hrb
  · intro i r0 r h1 h2 h3
    obtain ⟨_, e0, ob, e1, e2⟩ := hpin i (hp i r0 h1)
    obtain ⟨id, r1, f1, f2, rfl⟩ := lvFget i r h2
    rw [e0] at f1; cases f1
    obtain ⟨r2, q1, q2, _⟩ := R.hp i ob e1
    rw [f2] at q1; cases q1
    have hg : r1.gen = 0 := q2.trans e2
    have := R.pn i r0 r1 h1 f2 hg
    subst this
    cases r1; simp at hg; subst hg; rfl
  · intro i r0 h1
    exact (hpin i (hp i r0 h1)).1

/-- Names of rows, written out. -/
def sg (l : List (Nat × Nat)) (i : Nat) : Option Nat := match l with
  | [] => none
  | p :: r => if p.1 = i then some p.2 else sg r i

/-! ### conditions that can be decided by looking at the names alone -/

def keysOf (l : List (Nat × Ob)) : List Nat := l.map (·.1)

theorem hget_key {l : List (Nat × Ob)} {i : Nat} : hget l i ≠ none ↔ i ∈ keysOf l := by
  induction l with
  | nil => simp [hget, keysOf]
  | cons p r ih =>
    simp only [hget, keysOf, List.map_cons, List.mem_cons]
    by_cases e : p.1 = i
    · simp [e]
    · rw [if_neg e, ih]
      simp only [keysOf]
      constructor
      · intro h; exact .inr h
      · rintro (h | h)
        · exact absurd h.symm e
        · exact h

theorem sg_mem {l : List (Nat × Nat)} {i j : Nat} (h : sg l i = some j) : (i, j) ∈ l := by
  induction l with
  | nil => cases h
  | cons p r ih =>
    simp only [sg] at h
    split at h
    · rename_i e; cases h; rw [← e]; exact List.mem_cons_self
    · exact List.mem_cons_of_mem _ (ih h)

/-- No two of these names are one row's. -/
def injB (ks : List Nat) (l : List (Nat × Nat)) : Bool := ks.all fun i => ks.all fun j => decide (i = j) || !(sg l i == sg l j) || (sg l i == none)

theorem injB_inj {ks : List Nat} {l : List (Nat × Nat)} (h : injB ks l = true) {i j id : Nat} (hi : i ∈ ks) (hj : j ∈ ks) (h1 : sg l i = some id) (h2 : sg l j = some id) : i = j := by
  have := List.all_eq_true.1 (List.all_eq_true.1 h i hi) j hj
  rw [h1, h2] at this
  simpa using this

def apartB (ks : List Nat) (l : List (Nat × Nat)) (L : List Nat) : Bool := ks.all fun i => match sg l i with
  | none => true
  | some id => !L.contains id

theorem apartB_spec {ks : List Nat} {l : List (Nat × Nat)} {L : List Nat} (h : apartB ks l L = true) {id : Nat} (hid : id ∈ L) {i : Nat} (hi : i ∈ ks) : sg l i ≠ some id := by
  intro e
  have := List.all_eq_true.1 h i hi
  rw [e] at this
  simp at this
  exact this hid

/-- Every row that is asked for is there, and holds what is asked for. -/
def rowsM (h : Nat → Option Ob) (σ σA : Nat → Option Nat) (L : List Nat) : List (Nat × Ob) → Prop
  | [] => True
  | p :: r => (p.2.gen = 0 ∧ (match σ p.1 with
      | none => False
      | some id => match h id with
        | none => False
        | some ob' => body0 h σA p.2.body ob'.body ∧ (∀ j ∈ lentB p.2.body ob'.body, j ∈ L))) ∧ rowsM h σ σA L r

theorem rowsM_spec {h : Nat → Option Ob} {σ σA : Nat → Option Nat} {L : List Nat} : ∀ (l : List (Nat × Ob)), rowsM h σ σA L l → ∀ i ob, hget l i = some ob → ob.gen = 0 ∧ ∃ id ob', σ i = some id ∧ h id = some ob' ∧ body0 h σA ob.body ob'.body ∧ (∀ j ∈ lentB ob.body ob'.body, j ∈ L)
  | p :: r, hm, i, ob, hi => by
    simp only [hget] at hi
    by_cases e : p.1 = i
    · rw [if_pos e] at hi; cases hi
      obtain ⟨⟨h1, h2⟩, _⟩ := hm
      rw [e] at h2
      cases hs : σ i with
      | none => rw [hs] at h2; exact h2.elim
      | some id =>
        rw [hs] at h2
        cases ho : h id with
        | none => simp only [ho] at h2
        | some ob' => simp only [ho] at h2; exact ⟨h1, id, ob', rfl, ho, h2⟩
    · rw [if_neg e] at hi; exact rowsM_spec r hm.2 i ob hi

theorem Match.of {h : Nat → Option Ob} {xs args : List S} {hA : List (Nat × Ob)} {l : List (Nat × Nat)} {L : List Nat}
    (h1 : args1 h (only (sg l) (hget hA)) args xs) (h2 : rowsM h (sg l) (only (sg l) (hget hA)) L hA) (h3 : injB (keysOf hA) l = true) (h4 : ∀ id ∈ lents1 args xs, id ∈ L) (h5 : apartB (keysOf hA) l L = true) : Match h xs hA args (sg l) L :=
  ⟨h1, rowsM_spec hA h2, fun _ _ _ hi hj e1 e2 => injB_inj h3 (hget_key.1 hi) (hget_key.1 hj) e1 e2, h4, fun _ hid _ hi => apartB_spec h5 hid (hget_key.1 hi)⟩

theorem CallOk.of {h : Nat → Option Ob} {xs : List S} {pins : List Nat} {hA : List (Nat × Ob)} {args : List S} {hB : List (Nat × Ob)} {res : S} {l : List (Nat × Nat)} {keep : Bool} {L gone : List Nat}
    (h1 : args1 h (only (sg l) (hget hA)) args xs) (h2 : rowsM h (sg l) (only (sg l) (hget hA)) L hA) (h3 : injB (keysOf hA) l = true) (h4 : ∀ id ∈ lents1 args xs, id ∈ L) (h5 : apartB (keysOf hA) l L = true)
    (h6 : (keysOf hB).all (fun i => (sg l i).isSome) = true) (h7 : injB (keysOf hB) l = true) (h8 : pins.all (fun i => (keysOf hA).contains i && (keysOf hB).contains i) = true)
    (h9 : keep = true → res.flat2 ∧ ∀ p ∈ hB, p.2.body.flat) (h10 : (keysOf hA).all (fun i => pins.contains i || (match sg l i with | none => true | some id => gone.contains id)) = true) (h11 : keep = false → ∀ id ∈ L, id ∈ gone)
    (h12 : l.all (fun p => (keysOf hA).contains p.1 || (keysOf hB).contains p.1) = true) : CallOk h xs pins hA args hB res (sg l) keep L gone := by
  have M := Match.of h1 h2 h3 h4 h5
  refine ⟨M.a1, M.a2, M.a3, M.a4, M.a5, fun i hi => ?_, fun _ _ _ hi hj e1 e2 => injB_inj h7 (hget_key.1 hi) (hget_key.1 hj) e1 e2, fun i hi => ?_, fun hk => ⟨(h9 hk).1, fun i ob hi => (h9 hk).2 _ (hget_mem hi)⟩, fun i id hi hp hs => ?_, h11, fun i id hs => ?_⟩
  · have := List.all_eq_true.1 h6 i (hget_key.1 hi)
    exact Option.isSome_iff_exists.1 this
  · have := List.all_eq_true.1 h8 i hi
    simp only [Bool.and_eq_true, List.contains_iff_mem] at this
    exact ⟨hget_key.2 this.1, hget_key.2 this.2⟩
  · have := List.all_eq_true.1 h10 i (hget_key.1 hi)
    rw [hs] at this
    simp only [Bool.or_eq_true, List.contains_iff_mem] at this
    rcases this with h | h
    · exact absurd h hp
    · exact h
  · have := List.all_eq_true.1 h12 (i, id) (sg_mem hs)
    simp only [Bool.or_eq_true, List.contains_iff_mem] at this
    exact this.imp hget_key.2 hget_key.2

/-- A call, by a promise: what comes back is told by the caller's names. -/
theorem callW_of {P : Program} {f : Nat} {xs : List S} {h : Nat → Option Ob} {K : U → Prop} {pins : List Nat} {hA : List (Nat × Ob)} {args : List S} {hB : List (Nat × Ob)} {res : S} (hS : Spec P f pins hA args hB res) (l : List (Nat × Nat)) (keep : Bool) (L gone : List Nat)
    (C : CallOk h xs pins hA args hB res (sg l) keep L gone) (hK : K ⟨renS (only (sg l) (hget hB)) (gmOf h pins (sg l)) res, wrN h pins hB (sg l) gone⟩) : callW P f xs h K :=
  ⟨pins, hA, args, hB, res, sg l, keep, L, gone, hS, C, hK⟩
end Go.Eng
