/-
  The engine, part J: a call by what is promised of the callee.
-/
import Derived.Test.YthbonnlhoaeflaaEngI
set_option linter.unusedVariables false
set_option linter.unusedSimpArgs false
namespace Go.Eng
open Go.RowKit Go.Lib

theorem hget_mem {l : List (Nat × Ob)} {id : Nat} {ob : Ob} (h : hget l id = some ob) : (id, ob) ∈ l := by
  induction l with
  | nil => cases h
  | cons p r ih =>
    simp only [hget] at h
    split at h
    · rename_i e; cases h; rw [← e]; exact List.mem_cons_self
    · exact List.mem_cons_of_mem _ (ih h)

def lvN (lv lv' : Nat → Option Reg) (σ : Nat → Option Nat) (gm : Nat → Nat) : List (Nat × Ob) → Nat → Option Reg
  | [], id => lv id
  | p :: r, id => if σ p.1 = some id then (lv' p.1).map (fun r => { r with gen := gm p.1 }) else lvN lv lv' σ gm r id

theorem find_row (σ : Nat → Option Nat) (id : Nat) : ∀ (l : List (Nat × Ob)), (∃ i ob, hget l i = some ob ∧ σ i = some id) ∨ ∀ p ∈ l, σ p.1 ≠ some id
  | [] => .inr (by simp)
  | p :: r => by
    by_cases e : σ p.1 = some id
    · exact .inl ⟨p.1, p.2, by simp [hget], e⟩
    · rcases find_row σ id r with ⟨i, ob, h1, h2⟩ | h1
      · by_cases ei : p.1 = i
        · subst ei; exact absurd h2 e
        · exact .inl ⟨i, ob, by simp [hget, ei, h1], h2⟩
      · exact .inr (by intro q hq; rcases List.mem_cons.1 hq with rfl | hq; exact e; exact h1 q hq)

theorem hN_found {h : Nat → Option Ob} {pins : List Nat} {hB : List (Nat × Ob)} {σ : Nat → Option Nat} {gone : List Nat} {id i : Nat} : ∀ (l : List (Nat × Ob)) {ob : Ob}, hget l i = some ob → σ i = some id →
    (∀ j, hget l j ≠ none → σ j = some id → j = i) → hN h pins hB σ gone l id = some ⟨gmOf h pins σ i, renB (only σ (hget hB)) (gmOf h pins σ) ob.body⟩
  | p :: r, ob, h1, h2, h3 => by
    simp only [hN]
    by_cases e : σ p.1 = some id
    · have : p.1 = i := h3 p.1 (by simp [hget]) e
      rw [if_pos e]
      subst this
      simp [hget] at h1; subst h1; rfl
    · rw [if_neg e]
      have ne : p.1 ≠ i := fun ee => e (ee ▸ h2)
      simp only [hget, if_neg ne] at h1
      refine hN_found r h1 h2 (fun j hj hs => ?_)
      by_cases ej : p.1 = j
      · subst ej; exact absurd hs e
      · exact h3 j (by simp [hget, ej]; exact hj) hs

theorem lvN_found {lv lv' : Nat → Option Reg} {σ : Nat → Option Nat} {gm : Nat → Nat} {id i : Nat} : ∀ (l : List (Nat × Ob)) {ob : Ob}, hget l i = some ob → σ i = some id →
    (∀ j, hget l j ≠ none → σ j = some id → j = i) → lvN lv lv' σ gm l id = (lv' i).map (fun r => { r with gen := gm i })
  | p :: r, ob, h1, h2, h3 => by
    simp only [lvN]
    by_cases e : σ p.1 = some id
    · have : p.1 = i := h3 p.1 (by simp [hget]) e
      rw [if_pos e]
      subst this; rfl
    · rw [if_neg e]
      have ne : p.1 ≠ i := fun ee => e (ee ▸ h2)
      simp only [hget, if_neg ne] at h1
      refine lvN_found r h1 h2 (fun j hj hs => ?_)
      by_cases ej : p.1 = j
      · subst ej; exact absurd hs e
      · exact h3 j (by simp [hget, ej]; exact hj) hs

theorem hN_none {h : Nat → Option Ob} {pins : List Nat} {hB : List (Nat × Ob)} {σ : Nat → Option Nat} {gone : List Nat} {id : Nat} : ∀ (l : List (Nat × Ob)), (∀ p ∈ l, σ p.1 ≠ some id) →
    hN h pins hB σ gone l id = if id ∈ gone then (h id).map (fun ob => ⟨ob.gen, .dead⟩) else h id
  | [], _ => rfl
  | p :: r, hn => by
    simp only [hN]
    rw [if_neg (hn p (by simp))]
    exact hN_none r (fun q hq => hn q (by simp [hq]))

theorem lvN_none {lv lv' : Nat → Option Reg} {σ : Nat → Option Nat} {gm : Nat → Nat} {id : Nat} : ∀ (l : List (Nat × Ob)), (∀ p ∈ l, σ p.1 ≠ some id) → lvN lv lv' σ gm l id = lv id
  | [], _ => rfl
  | p :: r, hn => by
    simp only [lvN]
    rw [if_neg (hn p (by simp))]
    exact lvN_none r (fun q hq => hn q (by simp [hq]))

section
variable {Γ : Ctx} {s : Nat → S} {h : Nat → Option Ob} {a : Act} {w : World} {ok : Nat → Prop} {lv : Nat → Option Reg}

theorem call_core (R : Rel Γ s h a w ok lv) {f : Nat} {pins : List Nat} {hA hB : List (Nat × Ob)} {args xs : List S} {res : S} (hS : Spec Γ.P f pins hA args hB res) {σ : Nat → Option Nat} {keep : Bool} {L gone : List Nat}
    (C : CallOk h xs pins hA args hB res σ keep L gone) {vs : List Value} (hvl : vs.length = xs.length) (hvs : ∀ (j : Nat) (x : S) (v : Value), xs[j]? = some x → vs[j]? = some v → RepS w ok lv x v) :
    Calls Γ.P f vs.toArray w fun e w' => ∃ v okN lv2, e = .returned v ∧ Rel Γ s (hN h pins hB σ gone hB) a w' okN lv2 ∧ RepS w' okN lv2 (renS (only σ (hget hB)) (gmOf h pins σ) res) v := by
  -- what may be read in the call: what may be read here, and what is lent
  let okc : Nat → Prop := fun b => ok b ∨ ∃ id ∈ L, ∃ ob r, h id = some ob ∧ ob.body.live = true ∧ lv id = some r ∧ r.blk = some b
  let σA := only σ (hget hA)
  have hσA : ∀ i id, σA i = some id → hget hA i ≠ none := by
    intro i id hi
    show hget hA i ≠ none
    simp only [σA, only] at hi
    split at hi
    · cases hi
    · rename_i h1; rw [h1]; simp
  have hσA2 : ∀ i id, σA i = some id → σ i = some id := by
    intro i id hi
    simp only [σA, only] at hi
    split at hi
    · cases hi
    · exact hi
  have hσA3 : ∀ i id, hget hA i ≠ none → σ i = some id → σA i = some id := by
    intro i id h1 h2
    simp only [σA, only]
    split
    · rename_i h3; exact absurd h3 h1
    · exact h2
  have heqF : lvF lv σA (hget hA) = lvF lv σ (hget hA) := by
    funext i
    simp only [lvF, σA, only]
    cases hget hA i <;> rfl
  have hlive : ∀ (B B' : Body), body0 h σA B B' → B'.live = true ∧ B.live = true := by
    intro B B' hb
    unfold body0 at hb
    split at hb
    · exact ⟨rfl, rfl⟩
    · exact ⟨rfl, rfl⟩
    · exact hb.elim
  have hlentlive : ∀ id ∈ L, ∀ r b, lv id = some r → r.blk = some b → (∃ ob, h id = some ob ∧ ob.body.live = true) → okc b := fun id hid r b h1 h2 ⟨ob, h3, h4⟩ => .inr ⟨id, hid, ob, r, h3, h4, h1, h2⟩
  have lent_live0 : ∀ {f x : S}, arg0 h σA f x → ∀ id ∈ lent0 f x, ∃ ob, h id = some ob ∧ ob.body.live = true := by
    intro f x hm id hid
    unfold lent0 at hid
    split at hid
    · simp at hid; subst hid
      simp only [arg0] at hm
      obtain ⟨g', sz', rs, e1, _⟩ := hm
      exact ⟨_, e1, rfl⟩
    · simp at hid
  have lents_live0 : ∀ {fs xs : List S}, args0 h σA fs xs → ∀ id ∈ lents0 fs xs, ∃ ob, h id = some ob ∧ ob.body.live = true := by
    intro fs
    induction fs with
    | nil => intro xs _ id hid; simp [lents0] at hid
    | cons f fs ih =>
      intro xs hm id hid
      cases xs with
      | nil => simp [lents0] at hid
      | cons x xs =>
        simp only [lents0, List.mem_append] at hid
        rcases hid with hid | hid
        · exact lent_live0 hm.1 id hid
        · exact ih hm.2 id hid
  have lent_live1 : ∀ {f x : S}, arg1 h σA f x → ∀ id ∈ lent1 f x, ∃ ob, h id = some ob ∧ ob.body.live = true := by
    intro f x hm id hid
    unfold lent1 at hid
    split at hid
    · exact lents_live0 hm.1 id hid
    · exact lents_live0 hm.2 id hid
    · rename_i hno hno2
      unfold arg1 at hm
      split at hm
      · exact absurd rfl (hno _ _ rfl)
      · exact absurd rfl (hno2 _ _ _ _ rfl)
      · exact lent_live0 hm id hid
  have InA : InRel w okc (lvF lv σ (hget hA)) (hget hA) := by
    have lvFget : ∀ i r, lvF lv σ (hget hA) i = some r → ∃ id r0, σ i = some id ∧ lv id = some r0 ∧ r = { r0 with gen := 0 } := by
      intro i r hr
      simp only [lvF] at hr
      split at hr
      · cases hr
      · split at hr
        · cases hr
        · rename_i id hid
          cases hq : lv id with
          | none => rw [hq] at hr; cases hr
          | some r0 => rw [hq] at hr; simp at hr; exact ⟨id, r0, hid, hq, hr.symm⟩
    refine ⟨?_, ?_, ?_, ?_, ?_⟩
    · intro i ob hi
      obtain ⟨g0, id, ob', e1, e2, e3, e4⟩ := C.a2 i ob hi
      obtain ⟨r, q1, q2, q3⟩ := R.hp id ob' e2
      refine ⟨{ r with gen := 0 }, by simp [lvF, hi, e1, q1], g0.symm, ?_⟩
      cases hb : ob.body with
      | dead => trivial
      | arr sz rows =>
        rw [hb] at e3
        cases hb' : ob'.body with
        | dead => rw [hb'] at e3; exact e3.elim
        | box => rw [hb'] at e3; exact e3.elim
        | arr sz' rows' =>
          rw [hb'] at e3 q3
          obtain ⟨rfl, rfl⟩ := e3
          obtain ⟨s1, s2, s3, s4⟩ := q3
          refine ⟨s1, s2, s3, ?_⟩
          cases hrb : r.blk with
          | none => rw [hrb] at s4; exact s4
          | some b =>
            rw [hrb] at s4
            obtain ⟨c, e, fz, i1, i2, i3, i4, i5⟩ := s4
            refine ⟨c, e, fz, i1, i2, i3, i4, fun k y hk => ?_⟩
            obtain ⟨u, u1, u2, u3⟩ := i5 k y hk
            refine ⟨u, u1, u2, ?_⟩
            rw [List.getElem?_map] at hk
            cases hq : rows.flatten[k]? with
            | none => rw [hq] at hk; cases hk
            | some z =>
              rw [hq] at hk; simp at hk; subst hk
              cases u3 with | d _ _ hd => exact .d _ _ (hd.mono (fun _ _ => rfl) (fun _ h => .inl h))
      | box fs =>
        rw [hb] at e3
        cases hb' : ob'.body with
        | dead => rw [hb'] at e3; exact e3.elim
        | arr => rw [hb'] at e3; exact e3.elim
        | box cs =>
          rw [hb'] at e3 q3
          rw [hb, hb'] at e4
          obtain ⟨s1, b, s2, c, e, fz, i1, i2, i3, i4, i5⟩ := q3
          obtain ⟨g1, g2⟩ := args0_get e3.1
          refine ⟨by rw [g1]; exact s1, b, s2, c, e, fz, i1, i2, i3, by rw [g1]; exact i4, fun k y hk => ?_⟩
          have hlt : k < cs.length := by rw [← g1]; exact (List.getElem?_eq_some_iff.1 hk).1
          obtain ⟨u, u1, u2, u3⟩ := i5 k _ (List.getElem?_eq_getElem hlt)
          obtain ⟨p1, p2⟩ := g2 k y _ hk (List.getElem?_eq_getElem hlt)
          exact ⟨u, u1, u2, heqF ▸ arg0_rep R (fun _ h => .inl h) hσA u3 p1 (fun j hj r b h1 h2 => hlentlive j (e4 j (p2 j hj)) r b h1 h2 (lent_live0 p1 j hj))⟩
    · intro i hi; simp [lvF, hi]
    · intro i j oi oj ri rj b hi hj hli hlj hri hrj hbi hbj
      obtain ⟨id, r0, e1, e2, rfl⟩ := lvFget i ri hri
      obtain ⟨jd, r1, f1, f2, rfl⟩ := lvFget j rj hrj
      obtain ⟨_, id', oi', p1, p2, p3, _⟩ := C.a2 i oi hi
      obtain ⟨_, jd', oj', t1, t2, t3, _⟩ := C.a2 j oj hj
      rw [e1] at p1; cases p1
      rw [f1] at t1; cases t1
      have := R.inj id jd oi' oj' r0 r1 b p2 t2 (hlive _ _ p3).1 (hlive _ _ t3).1 e2 f2 hbi hbj
      subst this
      exact C.a3 i j id (by rw [hi]; simp) (by rw [hj]; simp) e1 f1
    · rintro b (hb | ⟨id, hid, ob, r, h1, h2, h3, h4⟩)
      · exact R.okl b hb
      · obtain ⟨r2, q1, _, q3⟩ := R.hp id ob h1
        rw [h3] at q1; cases q1
        exact q3.lt h2 h4
    · intro b i ob r hb hi hlv hr hrb
      obtain ⟨id, r0, e1, e2, rfl⟩ := lvFget i r hr
      obtain ⟨_, id', ob', p1, p2, p3, _⟩ := C.a2 i ob hi
      rw [e1] at p1; cases p1
      rcases hb with hb | ⟨j, hj, oj, rj, h1, h2, h3, h4⟩
      · exact R.okn b id ob' r0 hb p2 (hlive _ _ p3).1 e2 hrb
      · have := R.inj j id oj ob' rj r0 b h1 p2 h2 (hlive _ _ p3).1 h3 e2 h4 hrb
        subst this
        exact C.a5 j hj i (by rw [hi]; simp) e1
  obtain ⟨al, ag⟩ := args1_get C.a1
  refine (hS w okc (lvF lv σ (hget hA)) vs InA (by omega) (fun j y v hy hv => ?_)).mono ?_
  · have hlt : j < xs.length := by rw [← hvl]; exact (List.getElem?_eq_some_iff.1 hv).1
    obtain ⟨p1, p2⟩ := ag j y _ hy (List.getElem?_eq_getElem hlt)
    exact heqF ▸ arg1_rep R (fun _ h => .inl h) hσA (hvs j _ v (List.getElem?_eq_getElem hlt) hv) p1 (fun q hq r b h1 h2 => hlentlive q (C.a4 q (p2 q hq)) r b h1 h2 (lent_live1 p1 q hq))
  · rintro e w' ⟨v, ok', lv', rfl, hres, O⟩
    -- the rows' own blocks, by the caller's names
    have ownc : ∀ b, Own (lvF lv σ (hget hA)) (hget hA) b → ∃ i id ob r, hget hA i ≠ none ∧ σ i = some id ∧ h id = some ob ∧ ob.body.live = true ∧ lv id = some r ∧ r.blk = some b := by
      rintro b ⟨i, ob, r, h1, h2, h3, h4⟩
      obtain ⟨_, id, ob', e1, e2, e3, _⟩ := C.a2 i ob h1
      simp only [lvF, h1, e1] at h3
      cases hq : lv id with
      | none => rw [hq] at h3; cases h3
      | some r0 =>
        rw [hq] at h3; simp at h3; subst h3
        exact ⟨i, id, ob', r0, by rw [h1]; simp, e1, e2, (hlive _ _ e3).1, hq, h4⟩
    have ownlt : ∀ b, Own (lvF lv σ (hget hA)) (hget hA) b → b < w.heap.size := by
      intro b hb
      obtain ⟨i, id, ob, r, _, _, h1, h2, h3, h4⟩ := ownc b hb
      obtain ⟨r2, q1, _, q3⟩ := R.hp id ob h1
      rw [h3] at q1; cases q1
      exact q3.lt h2 h4
    have hpres : ∀ b, b < w.heap.size → ¬ Own (lvF lv σ (hget hA)) (hget hA) b → w'.heap[b]? = w.heap[b]? := O.block
    have okown : ∀ b, ok b → ¬ Own (lvF lv σ (hget hA)) (hget hA) b := by
      intro b hb ho
      obtain ⟨i, id, ob, r, _, _, h1, h2, h3, h4⟩ := ownc b ho
      exact R.okn b id ob r hb h1 h2 h3 h4
    have hokpres : ∀ b, ok b → w'.heap[b]? = w.heap[b]? := fun b hb => hpres b (R.okl b hb) (okown b hb)
    -- a row that isn't brought
    have otherown : ∀ j oj rj b, (∀ i, hget hA i ≠ none → σ i ≠ some j) → h j = some oj → oj.body.live = true → lv j = some rj → rj.blk = some b → b < w.heap.size ∧ ¬ Own (lvF lv σ (hget hA)) (hget hA) b := by
      intro j oj rj b hj h1 h2 h3 h4
      obtain ⟨r2, q1, _, q3⟩ := R.hp j oj h1
      rw [h3] at q1; cases q1
      refine ⟨q3.lt h2 h4, fun ho => ?_⟩
      obtain ⟨i, id, ob, r, e1, e2, e3, e4, e5, e6⟩ := ownc b ho
      have := R.inj j id oj ob rj r b h1 e3 h2 e4 h3 e5 h4 e6
      subst this
      exact hj i e1 e2
    let okN : Nat → Prop := fun b => ok b ∨ (keep = false ∧ ok' b)
    let gm := gmOf h pins σ
    let lv2 := lvN lv lv' σ gm hB
    have pinL : ∀ i, i ∈ pins → ∃ id ob r, σ i = some id ∧ h id = some ob ∧ gm i = ob.gen ∧ lv id = some r ∧ r.gen = ob.gen ∧ ∀ r', lv' i = some r' → { r' with gen := gm i } = r := by
      intro i hi
      obtain ⟨n1, n2⟩ := C.a8 i hi
      cases ho : hget hA i with
      | none => exact absurd ho n1
      | some oA =>
        obtain ⟨_, id, ob, e1, e2, _, _⟩ := C.a2 i oA ho
        obtain ⟨r, q1, q2, _⟩ := R.hp id ob e2
        have hg : gm i = ob.gen := by simp only [gm, gmOf, e1, hi, if_true, e2]
        refine ⟨id, ob, r, e1, e2, hg, q1, q2, fun r' hr' => ?_⟩
        have := O.pn i r' hi n2 hr'
        simp only [lvF, ho, e1, q1, Option.map_some, Option.some.injEq] at this
        rw [← this, hg, ← q2]
    have hfound : ∀ i ob id, hget hB i = some ob → σ i = some id → hN h pins hB σ gone hB id = some ⟨gm i, renB (only σ (hget hB)) gm ob.body⟩ ∧ lv2 id = (lv' i).map (fun r => { r with gen := gm i }) := by
      intro i ob id h1 h2
      have hu : ∀ j, hget hB j ≠ none → σ j = some id → j = i := fun j hj hs => C.a7 j i id hj (by rw [h1]; simp) hs h2
      exact ⟨hN_found hB h1 h2 hu, lvN_found hB h1 h2 hu⟩
    have hother : ∀ id, (∀ p ∈ hB, σ p.1 ≠ some id) → hN h pins hB σ gone hB id = (if id ∈ gone then (h id).map (fun ob => ⟨ob.gen, .dead⟩) else h id) ∧ lv2 id = lv id := fun id hn => ⟨hN_none hB hn, lvN_none hB hn⟩
    have hcase : ∀ id, (∃ i ob, hget hB i = some ob ∧ σ i = some id) ∨ ∀ p ∈ hB, σ p.1 ≠ some id := fun id => find_row σ id hB
    have hgmnew : ∀ i id, i ∉ pins → σ i = some id → gm i = nextGen (h id) := by
      intro i id hi hs; simp only [gm, gmOf, hs, hi, if_false]
    have later : Later lv lv2 := by
      intro id r hr
      rcases hcase id with ⟨i, ob, h1, h2⟩ | hn
      · obtain ⟨_, hl⟩ := hfound i ob id h1 h2
        obtain ⟨_, r', q1, _, _⟩ := O.hp i ob h1
        refine ⟨{ r' with gen := gm i }, by rw [hl, q1]; rfl, ?_⟩
        by_cases hi : i ∈ pins
        · obtain ⟨id', ob', r0, e1, e2, e3, e4, e5, e6⟩ := pinL i hi
          rw [h2] at e1; cases e1
          rw [hr] at e4; cases e4
          exact .inl (e6 r' q1)
        · right
          show r.gen < gm i
          rw [hgmnew i id hi h2]
          exact age R id r hr
      · exact ⟨r, by rw [(hother id hn).2]; exact hr, .inl rfl⟩
    -- what the renamed references lead to
    have hren : ∀ i id r, only σ (hget hB) i = some id → lv' i = some r → r.gen = 0 ∧ lv2 id = some { r with gen := gm i } := by
      intro i id r h1 h2
      simp only [only] at h1
      split at h1
      · cases h1
      · rename_i ob ho
        obtain ⟨_, r', q1, q2, _⟩ := O.hp i ob ho
        rw [h2] at q1; cases q1
        exact ⟨q2, by rw [(hfound i ob id ho h1).2, h2]; rfl⟩
    have hokN : ∀ b, okN b → b < w'.heap.size := by
      rintro b (hb | ⟨_, hb⟩)
      · exact Nat.lt_of_lt_of_le (R.okl b hb) O.size
      · exact O.okl b hb
    have hresN : RepS w' okN lv2 (renS (only σ (hget hB)) gm res) v := by
      by_cases hk : keep = true
      · exact renS_rep hren (hres.of_flat2 (C.a9 hk).1)
      · have hk' : keep = false := by simpa using hk
        exact renS_rep hren (hres.mono (fun _ _ => rfl) (fun b hb => .inr ⟨hk', hb⟩) (Later.refl _))
    have hbodyN : ∀ i ob r, hget hB i = some ob → lv' i = some r → BodyAt w' okN lv2 { r with gen := gm i } (renB (only σ (hget hB)) gm ob.body) := by
      intro i ob r h1 h2
      obtain ⟨_, r', q1, _, q3⟩ := O.hp i ob h1
      rw [h2] at q1; cases q1
      by_cases hk : keep = true
      · exact renB_at hren (q3.of_flat ((C.a9 hk).2 i ob h1)) _
      · have hk' : keep = false := by simpa using hk
        exact renB_at hren (q3.mono (fun _ _ => rfl) (fun b hb => .inr ⟨hk', hb⟩) (Later.refl _) (fun _ _ _ => rfl)) _
    have renlive : ∀ (B : Body), (renB (only σ (hget hB)) gm B).live = B.live := by intro B; cases B <;> rfl
    -- a living row of the new state: one of those that came back, or one that was never brought nor given up
    have kind : ∀ id ob r b, hN h pins hB σ gone hB id = some ob → ob.body.live = true → lv2 id = some r → r.blk = some b →
        (∃ i oB r', hget hB i = some oB ∧ σ i = some id ∧ lv' i = some r' ∧ r'.blk = some b ∧ oB.body.live = true) ∨
        ((∀ i, hget hA i ≠ none → σ i ≠ some id) ∧ h id = some ob ∧ lv id = some r ∧ id ∉ gone) := by
      intro id ob r b h1 h2 h3 h4
      rcases hcase id with ⟨i, oB, g1, g2⟩ | hn
      · left
        obtain ⟨e1, e2⟩ := hfound i oB id g1 g2
        obtain ⟨_, r', q1, _, _⟩ := O.hp i oB g1
        rw [e1] at h1; cases h1
        rw [e2, q1] at h3; simp at h3; subst h3
        exact ⟨i, oB, r', g1, g2, q1, h4, by rw [← renlive]; exact h2⟩
      · right
        obtain ⟨e1, e2⟩ := hother id hn
        rw [e2] at h3
        rw [e1] at h1
        by_cases hg : id ∈ gone
        · rw [if_pos hg] at h1
          cases hq : h id with
          | none => rw [hq] at h1; cases h1
          | some o2 => rw [hq] at h1; simp at h1; subst h1; cases h2
        · rw [if_neg hg] at h1
          refine ⟨fun i hi hs => ?_, h1, h3, hg⟩
          by_cases hp : i ∈ pins
          · obtain ⟨n1, n2⟩ := C.a8 i hp
            cases ho : hget hB i with
            | none => exact n2 ho
            | some oB => exact hn (i, oB) (hget_mem ho) hs
          · exact hg (C.b1 i id hi hp hs)
    refine ⟨v, okN, lv2, rfl, ?_, hresN⟩
    refine ⟨R.tm, R.df, fun t u hu => (R.sl t u hu).mono hokpres (fun _ h => .inl h) later, ?_, ?_, ?_, hokN, ?_, ?_, ?_, ?_, ?_, ?_⟩
    · -- hp
      intro id ob hob
      rcases hcase id with ⟨i, oB, g1, g2⟩ | hn
      · obtain ⟨e1, e2⟩ := hfound i oB id g1 g2
        obtain ⟨_, r', q1, _, _⟩ := O.hp i oB g1
        rw [e1] at hob; cases hob
        exact ⟨_, by rw [e2, q1]; rfl, rfl, hbodyN i oB r' g1 q1⟩
      · obtain ⟨e1, e2⟩ := hother id hn
        rw [e1] at hob
        by_cases hg : id ∈ gone
        · rw [if_pos hg] at hob
          cases hq : h id with
          | none => rw [hq] at hob; cases hob
          | some o2 =>
            rw [hq] at hob; simp at hob; subst hob
            obtain ⟨r, q1, q2, _⟩ := R.hp id o2 hq
            exact ⟨r, by rw [e2]; exact q1, q2, trivial⟩
        · rw [if_neg hg] at hob
          obtain ⟨r, q1, q2, q3⟩ := R.hp id ob hob
          refine ⟨r, by rw [e2]; exact q1, q2, q3.mono hokpres (fun _ h => .inl h) later (fun b hb hlv => ?_)⟩
          have hnA : ∀ i, hget hA i ≠ none → σ i ≠ some id := by
            intro i hi hs
            by_cases hp : i ∈ pins
            · obtain ⟨n1, n2⟩ := C.a8 i hp
              cases ho : hget hB i with
              | none => exact n2 ho
              | some oB => exact hn (i, oB) (hget_mem ho) hs
            · exact hg (C.b1 i id hi hp hs)
          obtain ⟨t1, t2⟩ := otherown id ob r b hnA hob hlv q1 hb
          exact hpres b t1 t2
    · -- hn
      intro id hid
      rcases hcase id with ⟨i, oB, g1, g2⟩ | hn
      · rw [(hfound i oB id g1 g2).1] at hid; cases hid
      · obtain ⟨e1, e2⟩ := hother id hn
        rw [e2]
        rw [e1] at hid
        by_cases hg : id ∈ gone
        · rw [if_pos hg] at hid
          cases hq : h id with
          | none => exact R.hn id hq
          | some o2 => rw [hq] at hid; cases hid
        · rw [if_neg hg] at hid; exact R.hn id hid
    · -- inj
      intro i j oi oj ri rj b hi hj hli hlj hri hrj hbi hbj
      rcases kind i oi ri b hi hli hri hbi with ⟨p, op, rp, p1, p2, p3, p4, p5⟩ | ⟨p1, p2, p3, _⟩ <;> rcases kind j oj rj b hj hlj hrj hbj with ⟨q, oq, rq, q1, q2, q3, q4, q5⟩ | ⟨q1, q2, q3, _⟩
      · have := O.inj p q op oq rp rq b p1 q1 p5 q5 p3 q3 p4 q4
        subst this
        rw [p2] at q2; cases q2; rfl
      · obtain ⟨t1, t2⟩ := otherown j oj rj b q1 q2 hlj q3 hbj
        rcases O.ph p op rp b p1 p5 p3 p4 with e | e
        · exact absurd e t2
        · omega
      · obtain ⟨t1, t2⟩ := otherown i oi ri b p1 p2 hli p3 hbi
        rcases O.ph q oq rq b q1 q5 q3 q4 with e | e
        · exact absurd e t2
        · omega
      · exact R.inj i j oi oj ri rj b p2 q2 hli hlj p3 q3 hbi hbj
    · -- okn
      intro b id ob r hb hid hlv hr hrb
      rcases kind id ob r b hid hlv hr hrb with ⟨p, op, rp, p1, p2, p3, p4, p5⟩ | ⟨p1, p2, p3, p4⟩
      · rcases hb with hb | ⟨_, hb⟩
        · rcases O.ph p op rp b p1 p5 p3 p4 with e | e
          · exact okown b hb e
          · have := R.okl b hb; omega
        · exact O.okn b p op rp hb p1 p5 p3 p4
      · rcases hb with hb | ⟨hk, hb⟩
        · exact R.okn b id ob r hb p2 hlv p3 hrb
        · obtain ⟨t1, t2⟩ := otherown id ob r b p1 p2 hlv p3 hrb
          rcases O.pv b hb with e | e | e
          · rcases e with e | ⟨j, hj, oj, rj, h1, h2, h3, h4⟩
            · exact R.okn b id ob r e p2 hlv p3 hrb
            · have := R.inj j id oj ob rj r b h1 p2 h2 hlv h3 p3 h4 hrb
              subst this
              exact p4 (C.b2 hk j hj)
          · exact t2 e
          · omega
    · -- fr
      refine ⟨O.os.trans R.fr.os, O.tape.trans R.fr.tape, O.output.trans R.fr.output, Nat.le_trans R.fr.size O.size, fun k hk hn => ?_⟩
      refine (hpres k (Nat.lt_of_lt_of_le hk R.fr.size) fun ho => ?_).trans (R.fr.block k hk hn)
      obtain ⟨i, id, ob, r, _, _, h1, h2, h3, h4⟩ := ownc k ho
      rcases R.ph id ob r k h1 h2 h3 h4 with q | q
      · exact hn q
      · omega
    · -- pv
      rintro b (hb | ⟨_, hb⟩)
      · exact R.pv b hb
      · rcases O.pv b hb with e | e | e
        · rcases e with e | ⟨j, hj, oj, rj, h1, h2, h3, h4⟩
          · exact R.pv b e
          · exact .inr (R.ph j oj rj b h1 h2 h3 h4)
        · obtain ⟨i, id, ob, r, _, _, h1, h2, h3, h4⟩ := ownc b e
          exact .inr (R.ph id ob r b h1 h2 h3 h4)
        · exact .inr (.inr (Nat.le_trans R.fr.size e))
    · -- ph
      intro id ob r b hid hlv hr hrb
      rcases kind id ob r b hid hlv hr hrb with ⟨p, op, rp, p1, p2, p3, p4, p5⟩ | ⟨p1, p2, p3, p4⟩
      · rcases O.ph p op rp b p1 p5 p3 p4 with e | e
        · obtain ⟨i, id', ob', r', _, _, h1, h2, h3, h4⟩ := ownc b e
          exact R.ph id' ob' r' b h1 h2 h3 h4
        · exact .inr (Nat.le_trans R.fr.size e)
      · exact R.ph id ob r b p2 hlv p3 hrb
    · -- pn
      intro id r0 r hp hr hg
      cases ho : h id with
      | none => exact absurd ho (R.pl id r0 hp)
      | some ob =>
        obtain ⟨r1, q1, _, _⟩ := R.hp id ob ho
        obtain ⟨r2, e1, e2⟩ := later id r1 q1
        rw [hr] at e1; cases e1
        rcases e2 with e2 | e2
        · subst e2; exact R.pn id r0 _ hp q1 hg
        · omega
    · -- pl
      intro id r0 hp hid
      rcases hcase id with ⟨i, oB, g1, g2⟩ | hn
      · rw [(hfound i oB id g1 g2).1] at hid; cases hid
      · rw [(hother id hn).1] at hid
        have hne := R.pl id r0 hp
        by_cases hg : id ∈ gone
        · rw [if_pos hg] at hid
          cases hq : h id with
          | none => exact hne hq
          | some o2 => rw [hq] at hid; cases hid
        · rw [if_neg hg] at hid; exact hne hid
end
end Go.Eng
