/-
  The engine, part G: literals of structs and slices, structs compared, copy.
-/
import Derived.Test.YthbonnlhoaeflaaEngF
import Derived.Laws.Tables
set_option linter.unusedVariables false
set_option linter.unusedSimpArgs false
namespace Go.Eng
open Go.RowKit Go.Lib
section
variable {Γ : Ctx} {s : Nat → S} {h : Nat → Option Ob} {a : Act} {w : World} {ok : Nat → Prop} {lv : Nat → Option Reg}

/-- Cells that stand for abstract cells. -/
def Cells (w : World) (ok : Nat → Prop) (lv : Nat → Option Reg) (c : Array Value) (L : List S) : Prop :=
  c.size = L.length ∧ ∀ (k : Nat) (y : S) (u : Value), L[k]? = some y → c[k]? = some u → RepS w ok lv y u ∧ u.oneCell' = true

theorem fold_set (vs : List Value) (off : Nat) : ∀ (j : Nat) (c : Array Value), 
    (((vs.zipIdx j).foldl (fun cs (p : Value × Nat) => cs.setIfInBounds (off + p.2) p.1) c).size = c.size ∧
    ∀ k, ((vs.zipIdx j).foldl (fun cs (p : Value × Nat) => cs.setIfInBounds (off + p.2) p.1) c)[k]? = if off + j ≤ k ∧ k < off + j + vs.length ∧ k < c.size then vs[k - (off + j)]? else c[k]?) := by
  induction vs with
  | nil => intro j c; refine ⟨rfl, fun k => ?_⟩; rw [if_neg (by simp; omega)]; rfl
  | cons v vs ih =>
    intro j c
    obtain ⟨h1, h2⟩ := ih (j + 1) (c.setIfInBounds (off + j) v)
    refine ⟨by simpa [List.zipIdx_cons] using h1, fun k => ?_⟩
    simp only [List.zipIdx_cons, List.foldl_cons]
    rw [h2 k]
    simp only [List.length_cons, Array.size_setIfInBounds]
    by_cases e : k = off + j
    · subst e
      rw [if_neg (by omega)]
      by_cases hs : off + j < c.size
      · rw [if_pos (by omega)]; simp [hs]
      · rw [if_neg (by omega)]; simp [hs]
    · by_cases hc : off + (j + 1) ≤ k ∧ k < off + (j + 1) + vs.length ∧ k < c.size
      · rw [if_pos hc, if_pos (by omega)]
        have e1 : k - (off + j) = k - (off + (j + 1)) + 1 := by omega
        rw [e1, List.getElem?_cons_succ]
      · rw [if_neg hc, if_neg (by omega), Array.getElem?_setIfInBounds_ne (by omega)]

/-- One part laid. -/
theorem Cells.lay {c : Array Value} {L L' : List S} (hc : Cells w ok lv c L) {off n : Nat} {v : Value} {xs : List S} (hn : xs.length = n) (hl : v.cells.toList.length = xs.length)
    (hv : ∀ (k : Nat) (y : S) (u : Value), xs[k]? = some y → v.cells.toList[k]? = some u → RepS w ok lv y u ∧ u.oneCell' = true)
    (hL : L'.length = L.length) (hfit : off + n ≤ L.length)
    (hL' : ∀ (k : Nat) (y : S), L'[k]? = some y → (off ≤ k ∧ k < off + xs.length ∧ xs[k - off]? = some y) ∨ (¬ (off ≤ k ∧ k < off + xs.length) ∧ L[k]? = some y)) :
    Cells w ok lv (v.cells.zipIdx.foldl (fun cs (p : Value × Nat) => cs.setIfInBounds (off + p.2) p.1) c) L' := by
  have e : v.cells.zipIdx.foldl (fun cs (p : Value × Nat) => cs.setIfInBounds (off + p.2) p.1) c = (v.cells.toList.zipIdx 0).foldl (fun cs (p : Value × Nat) => cs.setIfInBounds (off + p.2) p.1) c := by
    rw [← Array.foldl_toList, Array.toList_zipIdx]
  obtain ⟨h1, h2⟩ := fold_set v.cells.toList off 0 c
  rw [e]
  refine ⟨by rw [h1, hc.1, hL], fun k y u hk hu => ?_⟩
  rw [h2 k] at hu
  rcases hL' k y hk with ⟨p1, p2, p3⟩ | ⟨p1, p2⟩
  · have hlt : k < c.size := by rw [hc.1]; omega
    rw [if_pos ⟨by omega, by rw [hl]; omega, hlt⟩] at hu
    exact hv (k - off) y u p3 hu
  · rw [if_neg (by rw [hl]; omega)] at hu
    exact hc.2 k y u p2 hu

theorem fill_build {place : Nat → Option (Nat × Nat)} {ev : LA → A} : ∀ (parts : List (Nat × Value)) (lparts : List (Nat × Nat × LA)) (c : Array Value) (L L' : List S), Cells w ok lv c L → buildCells ev lparts L = some L' →
    parts.length = lparts.length → (∀ (j : Nat) (p : Nat × Value) (q : Nat × Nat × LA), parts[j]? = some p → lparts[j]? = some q → place p.1 = some (q.1, q.2.1) ∧ RepS w ok lv (ev q.2.2).1 p.2) →
    ∃ c', Instr.fill place c parts = some c' ∧ Cells w ok lv c' L'
  | [], lp, c, L, L', hc, hb, hl, _ => by
    cases lp with
    | nil => simp [buildCells] at hb; subst hb; exact ⟨c, rfl, hc⟩
    | cons q lp => simp at hl
  | (i, v) :: parts, lp, c, L, L', hc, hb, hl, hp => by
    cases lp with
    | nil => simp at hl
    | cons q lp =>
      obtain ⟨o, n, x⟩ := q
      obtain ⟨p1, p2⟩ := hp 0 (i, v) (o, n, x) rfl rfl
      simp only at p1 p2
      simp only [buildCells] at hb
      split at hb
      · rename_i hcond
        obtain ⟨c1, c2, c3⟩ := hcond
        obtain ⟨g1, g2⟩ := RepS.cells p2 c2
        have hlen : o + (ev x).1.cellsOf.length ≤ L.length := by omega
        have hc' := hc.lay (off := o) c1 g1 g2 (setAt_length L o _ hlen) c3 (fun k y hk => setAt_get L o _ hlen k y hk)
        obtain ⟨c', r1, r2⟩ := fill_build parts lp _ _ L' hc' hb (by simpa using hl) (fun j p q h1 h2 => hp (j + 1) p q (by simpa using h1) (by simpa using h2))
        refine ⟨c', ?_, r2⟩
        have e1 : v.cells.size = n := by
          have := g1
          rw [Array.length_toList] at this
          exact this.trans c1
        have e2 := hc.1
        have hneg : ¬ (v.cells.size ≠ n ∨ o + v.cells.size > c.size) := by
          rintro (q | q)
          · exact q e1
          · omega
        simp only [Instr.fill, p1]
        exact (if_neg (by simpa using hneg)).trans r1
      · cases hb

/-- The rows that a literal gives up. -/
theorem drops {Γ : Ctx} {s : Nat → S} {a : Act} {w : World} {lv : Nat → Option Reg} : ∀ (ws : List (Nat × Ob)) (h : Nat → Option Ob) (ok : Nat → Prop), Rel Γ s h a w ok lv → (ws.map (·.1)).Nodup →
    (∀ p ∈ ws, ∃ ob, h p.1 = some ob ∧ p.2 = ⟨ob.gen, .dead⟩) →
    ∃ ok', Rel Γ s (hwr h ws) a w ok' lv ∧ (∀ b, ok b → ok' b) ∧ ∀ p ∈ ws, ∀ ob r b, h p.1 = some ob → ob.body.live = true → lv p.1 = some r → r.blk = some b → ok' b
  | [], h, ok, R, _, _ => ⟨ok, R, fun _ h => h, by simp⟩
  | (id, ob') :: ws, h, ok, R, hnd, hp => by
    obtain ⟨ob, h1, h2⟩ := hp (id, ob') (by simp)
    simp only at h1 h2
    subst h2
    have hne : ∀ p ∈ ws, p.1 ≠ id := by
      intro p hpm e
      simp only [List.map_cons, List.nodup_cons] at hnd
      exact hnd.1 (by rw [← e]; exact List.mem_map.2 ⟨p, hpm, rfl⟩)
    have R' := R.drop id ob h1
    obtain ⟨ok', r1, r2, r3⟩ := drops ws _ _ R' (by simp only [List.map_cons, List.nodup_cons] at hnd; exact hnd.2) (fun p hpm => by
      obtain ⟨o2, q1, q2⟩ := hp p (by simp [hpm])
      exact ⟨o2, by rw [up_ne _ _ _ (hne p hpm)]; exact q1, q2⟩)
    refine ⟨ok', r1, fun b hb => r2 b (.inl hb), fun p hpm o2 r b g1 g2 g3 g4 => ?_⟩
    rcases List.mem_cons.1 hpm with rfl | hpm
    · rw [h1] at g1; cases g1
      exact r2 b (.inr ⟨g2, r, g3, g4⟩)
    · exact r3 p hpm o2 r b (by rw [up_ne _ _ _ (hne p hpm)]; exact g1) g2 g3 g4

/-- A slice of an owned row that is given up, as pure data. -/
theorem view_pure (R : Rel Γ s h a w ok lv) {id g off len g' sz : Nat} {rows : List (List D)} {v : Value} (hv : RepS w ok lv (.view id g off len) v) (ho : h id = some ⟨g', .arr sz rows⟩) (hg : g = g') (hle : off + len ≤ rows.length)
    {ok' : Nat → Prop} (h1 : ∀ b, ok b → ok' b) (h2 : ∀ r b, lv id = some r → r.blk = some b → ok' b) : RepD w ok' (.sl sz ((rows.drop off).take len)) v := by
  obtain ⟨r, q1, q2, q3, q4⟩ := R.view hv ho hg
  obtain ⟨s1, s2, s3, s4⟩ := q3
  have hlen : ((rows.drop off).take len).length = len := by simp; omega
  have hr' : ∀ r ∈ rows.drop off, r.length = sz := fun r hr => s3 r (List.mem_of_mem_drop hr)
  unfold ViewAt at q4
  split at q4
  · obtain ⟨rfl, p0, rfl⟩ := q4
    simp only [List.take_zero]
    cases p0 with
    | none => exact .nil _
    | some a => exact .emp _ _ _
  · rename_i b hb
    obtain ⟨cap, o, rfl, hlc, ho'⟩ := q4
    rw [hb] at s4
    have := RepD.sl (w := w) (ok := ok') sz ((rows.drop off).take len) b o cap (fun k => (w.cell? ⟨b, o + k, none⟩).getD undef) (fun r hr => hr' r (List.mem_of_mem_take hr)) (by rw [hlen]; exact hlc) (fun _ => h2 r b q1 hb)
    rw [hlen] at this
    have hall : ∀ k x, ((rows.drop off).take len).flatten[k]? = some x → w.cell? ⟨b, o + k, none⟩ = some ((w.cell? ⟨b, o + k, none⟩).getD undef) ∧ ((w.cell? ⟨b, o + k, none⟩).getD undef).oneCell' = true ∧ RepS w ok lv (.d x) ((w.cell? ⟨b, o + k, none⟩).getD undef) := by
      intro k d hk
      rw [flatten_take hr', flatten_drop s3, List.getElem?_take] at hk
      split at hk
      · rename_i hlt
        rw [List.getElem?_drop] at hk
        have hpos : 0 < cap := by
          have : 0 < len := by
            rcases Nat.eq_zero_or_pos len with e | e
            · subst e; simp at hlt
            · exact e
          omega
        obtain ⟨rfl, _⟩ := ho' hpos
        have := s4.cell (k := off * sz + k) (y := .d d) (by rw [List.getElem?_map, hk]; rfl)
        have e : r.off + off * r.sz + k = r.off + (off * sz + k) := by rw [s1]; omega
        rw [e]; exact this
      · cases hk
    refine this (fun k x hk => ⟨(hall k x hk).1, (hall k x hk).2.1⟩) (fun k x hk => ?_)
    have := (hall k x hk).2.2
    cases this with
    | d _ _ hd => exact hd.mono (fun _ _ => rfl) h1

theorem pureCells_rep (R : Rel Γ s h a w ok lv) {ok' : Nat → Prop} (h1 : ∀ b, ok b → ok' b) : ∀ (cs : List S) (us : List Value) (xs : List D) (ws : List (Nat × Ob)), pureCells cs ((cs.flatMap cellRefs).map h) = some (xs, ws) →
    us.length = cs.length → (∀ (k : Nat) (y : S) (u : Value), cs[k]? = some y → us[k]? = some u → RepS w ok lv y u) →
    (∀ p ∈ ws, ∀ ob r b, h p.1 = some ob → ob.body.live = true → lv p.1 = some r → r.blk = some b → ok' b) →
    xs.length = cs.length ∧ (∀ (k : Nat) (x : D) (u : Value), xs[k]? = some x → us[k]? = some u → RepD w ok' x u) ∧ ∀ p ∈ ws, ∃ ob, h p.1 = some ob ∧ p.2 = ⟨ob.gen, .dead⟩
  | [], us, xs, ws, hp, hl, _, _ => by
    simp [pureCells] at hp
    obtain ⟨rfl, rfl⟩ := hp
    exact ⟨rfl, fun k x u hk => by simp at hk, by simp⟩
  | c :: cs, us, xs, ws, hp, hl, hu, hok => by
    cases us with
    | nil => simp at hl
    | cons u us =>
      have hc := hu 0 c u rfl rfl
      have htl : ∀ (k : Nat) (y : S) (u' : Value), cs[k]? = some y → us[k]? = some u' → RepS w ok lv y u' := fun k y u' h1 h2 => hu (k + 1) y u' (by simpa using h1) (by simpa using h2)
      simp only [pureCells, List.flatMap_cons, List.map_append] at hp
      -- one cell
      have one : ∃ x w1, pureCell c ((cellRefs c).map h ++ (cs.flatMap cellRefs).map h) = some (x, w1, (cs.flatMap cellRefs).map h) ∧
          ((∀ p ∈ w1, ∀ ob r b, h p.1 = some ob → ob.body.live = true → lv p.1 = some r → r.blk = some b → ok' b) → RepD w ok' x u) ∧ (∀ p ∈ w1, ∃ ob, h p.1 = some ob ∧ p.2 = ⟨ob.gen, .dead⟩) ∧
          ∃ xs' ws', pureCells cs ((cs.flatMap cellRefs).map h) = some (xs', ws') ∧ xs = x :: xs' ∧ ws = w1 ++ ws' := by
        cases c with
        | d x =>
          simp only [cellRefs, List.map_nil, List.nil_append, pureCell] at hp ⊢
          split at hp
          · rename_i xs' ws' hq
            simp at hp
            obtain ⟨rfl, rfl⟩ := hp
            refine ⟨x, [], rfl, fun _ => ?_, by simp, xs', ws', hq, rfl, rfl⟩
            cases hc with | d _ _ hd => exact hd.mono (fun _ _ => rfl) h1
          · cases hp
        | view id g off len =>
          simp only [cellRefs, List.map_cons, List.map_nil, List.cons_append, List.nil_append] at hp ⊢
          cases ho : h id with
          | none => rw [ho] at hp; simp [pureCell] at hp
          | some ob =>
            obtain ⟨g', B⟩ := ob
            rw [ho] at hp
            cases B with
            | dead => simp [pureCell] at hp
            | box => simp [pureCell] at hp
            | arr sz rows =>
              simp only [pureCell] at hp ⊢
              by_cases hcond : g = g' ∧ off + len ≤ rows.length
              · rw [if_pos hcond] at hp ⊢
                simp only at hp
                split at hp
                · rename_i xs' ws' hq
                  simp at hp
                  obtain ⟨rfl, rfl⟩ := hp
                  refine ⟨_, _, rfl, fun hk => ?_, ?_, xs', ws', hq, rfl, rfl⟩
                  · exact view_pure R hc ho hcond.1 hcond.2 h1 (fun r b hr hb => hk _ (List.mem_singleton.2 rfl) _ r b ho rfl hr hb)
                  · intro p hp; rw [List.mem_singleton.1 hp]; exact ⟨_, ho, rfl⟩
                · cases hp
              · rw [if_neg hcond] at hp; cases hp
        | pat _ => simp [pureCell] at hp
        | ptr id g r c =>
          simp only [cellRefs, List.map_cons, List.map_nil, List.cons_append, List.nil_append] at hp
          cases ho : h id with
          | none => rw [ho] at hp; simp [pureCell] at hp
          | some ob => rw [ho] at hp; simp [pureCell] at hp
        | agg _ => simp [pureCell] at hp
        | tup _ => simp [pureCell] at hp
        | clo _ _ => simp [pureCell] at hp
        | any => simp [pureCell] at hp
      obtain ⟨x, w1, e1, e2, e3, xs', ws', e4, rfl, rfl⟩ := one
      obtain ⟨f1, f2, f3⟩ := pureCells_rep R h1 cs us xs' ws' e4 (by simpa using hl) htl (fun p hp => hok p (by simp [hp]))
      refine ⟨by simp [f1], fun k y u' hk hu' => ?_, fun p hp => ?_⟩
      · cases k with
        | zero => simp at hk hu'; subst hk hu'; exact e2 (fun p hp => hok p (by simp [hp]))
        | succ k => exact f2 k y u' (by simpa using hk) (by simpa using hu')
      · rcases List.mem_append.1 hp with hp | hp
        · exact e3 p hp
        · exact f3 p hp

theorem rows_len {rows : List (List D)} {sz n : Nat} (hr : ∀ r ∈ rows, r.length = sz) {q : List D} (hq : q.length = sz) : ∀ r ∈ rows.set n q, r.length = sz := by
  intro r hm
  rcases List.mem_or_eq_of_mem_set hm with hm | rfl
  · exact hr r hm
  · exact hq

theorem fill_rows (R : Rel Γ s h a w ok lv) {ok' : Nat → Prop} (h1 : ∀ b, ok b → ok' b) {sz : Nat} {ev : LA → A} : ∀ (parts : List (Nat × Value)) (lparts : List (Nat × LA)) (c : Array Value) (rows rows' : List (List D)) (ws : List (Nat × Ob)),
    Cells w ok' lv c (rows.flatten.map .d) → (∀ r ∈ rows, r.length = sz) → bsRows ev sz lparts rows = some (rows', ws) → parts.length = lparts.length →
    (∀ (j : Nat) (p : Nat × Value) (q : Nat × LA), parts[j]? = some p → lparts[j]? = some q → p.1 = q.1 ∧ q.1 < rows.length ∧ RepS w ok lv (ev q.2).1 p.2 ∧ (ev q.2).2 = ((ev q.2).1.refs).map h) →
    (∀ p ∈ ws, ∀ ob r b, h p.1 = some ob → ob.body.live = true → lv p.1 = some r → r.blk = some b → ok' b) →
    ∃ c', Instr.fill (fun i => some (i * sz, sz)) c parts = some c' ∧ Cells w ok' lv c' (rows'.flatten.map .d) ∧ (∀ r ∈ rows', r.length = sz) ∧ rows'.length = rows.length ∧ ∀ p ∈ ws, ∃ ob, h p.1 = some ob ∧ p.2 = ⟨ob.gen, .dead⟩
  | [], lp, c, rows, rows', ws, hc, hr, hb, hl, _, _ => by
    cases lp with
    | nil => simp [bsRows] at hb; obtain ⟨rfl, rfl⟩ := hb; exact ⟨c, rfl, hc, hr, rfl, by simp⟩
    | cons q lp => simp at hl
  | (i, v) :: parts, lp, c, rows, rows', ws, hc, hr, hb, hl, hp, hok => by
    cases lp with
    | nil => simp at hl
    | cons q lp =>
      obtain ⟨o, x⟩ := q
      obtain ⟨p1, p2, p3, p4⟩ := hp 0 (i, v) (o, x) rfl rfl
      simp only at p1 p2 p3 p4
      subst p1
      simp only [bsRows] at hb
      split at hb
      · rename_i xs w1 hpc
        split at hb
        · rename_i hcond
          obtain ⟨c1, c2⟩ := hcond
          split at hb
          · rename_i rs ws' hbs
            simp at hb
            obtain ⟨rfl, rfl⟩ := hb
            obtain ⟨g1, g2⟩ := RepS.cells p3 c2
            have hrefs : (ev x).1.refs = (ev x).1.cellsOf.flatMap cellRefs := by
              cases hx : (ev x).1 <;> first | rfl | (rw [hx] at c2; simp [S.cellsOf, S.one] at c2; done) | simp [S.refs, S.cellsOf, cellRefs]
            rw [p4, hrefs] at hpc
            obtain ⟨d1, d2, d3⟩ := pureCells_rep R h1 _ v.cells.toList xs w1 hpc g1 (fun k y u a1 a2 => (g2 k y u a1 a2).1) (fun p hp => hok p (by simp [hp]))
            have hxl : xs.length = v.cells.toList.length := d1.trans g1.symm
            have hfl : rows.flatten.length = rows.length * sz := flatten_length hr
            have hset := rows_len (n := i) hr c1
            have hfl2 : (rows.set i xs).flatten.length = rows.length * sz := by rw [flatten_length hset, List.length_set]
            have hin : i * sz + sz ≤ rows.length * sz := by
              have : (i + 1) * sz ≤ rows.length * sz := Nat.mul_le_mul_right _ p2
              rw [Nat.add_mul] at this; omega
            have hc' := hc.lay (off := i * sz) (n := sz) (v := v) (xs := xs.map .d) (L' := (rows.set i xs).flatten.map .d) (by rw [List.length_map]; exact c1) (by rw [List.length_map]; exact hxl.symm)
              (fun k y u a1 a2 => by
                rw [List.getElem?_map] at a1
                cases hq : xs[k]? with
                | none => rw [hq] at a1; cases a1
                | some z =>
                  rw [hq] at a1; simp at a1; subst a1
                  have hkc : k < (ev x).1.cellsOf.length := by rw [← d1]; exact (List.getElem?_eq_some_iff.1 hq).1
                  exact ⟨.d _ _ (d2 k z u hq a2), (g2 k _ u (List.getElem?_eq_getElem hkc) a2).2⟩)
              (by rw [List.length_map, List.length_map, hfl, hfl2]) (by rw [List.length_map, hfl]; exact hin)
              (fun k y hk => by
                rw [List.getElem?_map] at hk
                cases hq : (rows.set i xs).flatten[k]? with
                | none => rw [hq] at hk; cases hk
                | some z =>
                  rw [hq] at hk; simp at hk; subst hk
                  rw [List.length_map, List.getElem?_map, List.getElem?_map, c1]
                  rcases flatten_set hr p2 c1 k z hq with ⟨t1, t2, t3⟩ | ⟨t1, t2⟩
                  · exact .inl ⟨t1, t2, by rw [t3]; rfl⟩
                  · exact .inr ⟨t1, by rw [t2]; rfl⟩)
            obtain ⟨c', r1, r2, r3, r4, r5⟩ := fill_rows R h1 parts lp _ _ rs ws' hc' hset hbs (by simpa using hl)
              (fun j p q a1 a2 => by have := hp (j + 1) p q (by simpa using a1) (by simpa using a2); rw [List.length_set]; exact this) (fun p hp => hok p (by simp [hp]))
            refine ⟨c', ?_, r2, r3, by rw [r4, List.length_set], fun p hp => ?_⟩
            · have e1 : v.cells.size = sz := by
                have := hxl
                rw [Array.length_toList] at this
                exact this.symm.trans c1
              have e2 := hc.1
              rw [List.length_map, hfl] at e2
              have hneg : ¬ (v.cells.size ≠ sz ∨ i * sz + v.cells.size > c.size) := by
                rintro (q | q)
                · exact q e1
                · omega
              simp only [Instr.fill]
              exact (if_neg (by simpa using hneg)).trans r1
            · rcases List.mem_append.1 hp with hp | hp
              · exact d3 p hp
              · exact r5 p hp
          · cases hb
        · cases hb
      · cases hb

theorem bslice_does (R : Rel Γ s h a w ok lv) {t e : TypeId} {i : TypeInfo} {z : Value} (ht : Γ.P.underlying t = some (.slice e)) (hi : Γ.P.info? e = some i) (hz : i.zero = some z) (hzs : i.size = z.cells.size) (h0 : 0 < i.size)
    (h1 : ∀ u ∈ z.cells.toList, u.oneCell' = true) {n : Nat} (hn : n * i.size ≤ 16777216) {parts : Array (Nat × Value)} {lparts : List (Nat × LA)} {ev : LA → A} {rows : List (List D)} {ws : List (Nat × Ob)}
    (hb : bsRows ev i.size lparts (List.replicate n (z.cells.toList.map .v)) = some (rows, ws)) (hl : parts.toList.length = lparts.length)
    (hp : ∀ (j : Nat) (p : Nat × Value) (q : Nat × LA), parts.toList[j]? = some p → lparts[j]? = some q → p.1 = q.1 ∧ q.1 < n ∧ RepS w ok lv (ev q.2).1 p.2 ∧ (ev q.2).2 = ((ev q.2).1.refs).map h)
    (hnd : (ws.map (·.1)).Nodup) (d : Nat) (hd : d ∉ ws.map (·.1)) :
    Does Γ s h a w (Instr.buildSlice t n parts) ⟨.view d (nextGen (h d)) 0 n, ws ++ [(d, ⟨nextGen (h d), .arr i.size rows⟩)]⟩ := by
  have hrep : ∀ r ∈ List.replicate n (z.cells.toList.map D.v), r.length = i.size := by
    intro r hr; rw [List.eq_of_mem_replicate hr]; simp [hzs]
  have hz0 : ∀ ok', Cells w ok' lv ((Array.range (n * i.size)).map (z.cells[· % z.cells.size]!)) ((List.replicate n (z.cells.toList.map D.v)).flatten.map .d) := by
    intro ok'
    refine ⟨by simp only [Array.size_map, Array.size_range, List.length_map, flatten_length hrep, List.length_replicate], fun k y u hk hu => ?_⟩
    rw [List.getElem?_map] at hk
    cases hq : (List.replicate n (z.cells.toList.map D.v)).flatten[k]? with
    | none => rw [hq] at hk; cases hk
    | some x =>
      rw [hq] at hk; simp at hk; subst hk
      obtain ⟨g1, g2⟩ := flatten_replicate_get _ _ _ _ hq
      rw [List.length_map, Array.length_toList] at g1 g2
      rw [List.getElem?_map] at g2
      cases hy : z.cells.toList[k % z.cells.size]? with
      | none => rw [hy] at g2; cases g2
      | some q =>
        rw [hy] at g2; simp at g2; subst g2
        rw [Array.getElem?_map, Array.getElem?_range, if_pos (by rw [hzs]; exact g1)] at hu
        simp only [Option.map_some, Option.some.injEq] at hu
        have hy' := hy
        simp only [Array.getElem?_toList] at hy'
        rw [Array.getElem!_eq_getD, Array.getD_eq_getD_getElem?, hy'] at hu
        simp at hu; subst hu
        exact ⟨.d _ _ (.v _), h1 _ (List.mem_of_getElem? hy)⟩
  have hp' : ∀ (j : Nat) (p : Nat × Value) (q : Nat × LA), parts.toList[j]? = some p → lparts[j]? = some q → p.1 = q.1 ∧ q.1 < (List.replicate n (z.cells.toList.map D.v)).length ∧ RepS w ok lv (ev q.2).1 p.2 ∧ (ev q.2).2 = ((ev q.2).1.refs).map h :=
    fun j p q a1 a2 => by obtain ⟨b1, b2, b3, b4⟩ := hp j p q a1 a2; exact ⟨b1, by simpa using b2, b3, b4⟩
  -- first what is given up is told
  obtain ⟨_, _, _, _, _, hpre⟩ := fill_rows R (ok' := fun _ => True) (fun _ _ => trivial) parts.toList lparts _ _ rows ws (hz0 _) hrep hb hl hp' (fun _ _ _ _ _ _ _ _ _ => trivial)
  obtain ⟨ok', R', k1, k2⟩ := drops ws h ok R hnd hpre
  obtain ⟨c', f1, f2, f3, f4, _⟩ := fill_rows R k1 parts.toList lparts _ _ rows ws (hz0 _) hrep hb hl hp' k2
  obtain ⟨q1, q2, q3, q4, q5, q6⟩ := alloc_frame w (.cells c' e)
  have hsame : hwr h ws d = h d := by
    have : ∀ (ws : List (Nat × Ob)) (h : Nat → Option Ob), d ∉ ws.map (·.1) → hwr h ws d = h d := by
      intro ws
      induction ws with
      | nil => intro h _; rfl
      | cons p ws ih =>
        intro h hn
        simp only [List.map_cons, List.mem_cons, not_or] at hn
        rw [hwr_cons, ih _ hn.2, up_ne _ _ _ hn.1]
    exact this ws h hd
  have R2 := R'.newBlk d (.arr i.size rows) c' e (0, 0) i.size _ q1 q2 q3 q4 q5 q6 (by simp) (.inl ⟨_, rfl, h0, f3⟩) (by simp only [Body.cells]; rw [f2.1]; exact Nat.le_refl _) (fun k y hk => by
    simp only [Body.cells] at hk
    have hlt : k < c'.size := by rw [f2.1]; exact (List.getElem?_eq_some_iff.1 hk).1
    obtain ⟨g1, g2⟩ := f2.2 k y _ hk (Array.getElem?_eq_getElem hlt)
    exact ⟨_, Array.getElem?_eq_getElem hlt, g2, g1⟩)
  rw [hsame] at R2
  refine ⟨.slice (some ⟨w.heap.size, 0, none⟩) n n, _, ok', _, ?_, by simp only [hwr_append, hwr_cons, hwr_nil]; exact R2, ?_⟩
  · have hn' : ¬ (16777216 < n * i.size) := by omega
    by_cases hz' : n * i.size = 0
    · have hn0 : n = 0 := by
        rcases Nat.eq_zero_or_pos n with e | e
        · exact e
        · have := Nat.mul_le_mul_left n h0; simp at this; omega
      subst hn0
      have hnil : parts.toList = [] := by
        cases hpl : parts.toList with
        | nil => rfl
        | cons p ps =>
          rw [hpl] at hl hp'
          cases hlp : lparts with
          | nil => rw [hlp] at hl; simp at hl
          | cons q qs =>
            rw [hlp] at hp'
            obtain ⟨_, b2, _⟩ := hp' 0 p q rfl rfl
            simp at b2
      rw [hnil] at f1
      simp only [Instr.fill, Option.some.injEq] at f1
      have hc' : c' = #[] := by rw [← f1]; simp [Array.range_zero']
      simp [Instr.buildSlice, run_underlying ht, sizeOf, typeInfo, hi, newRow, hnil, Instr.fill, hc', Array.range_zero']
    · simp [Instr.buildSlice, run_underlying ht, sizeOf, typeInfo, zeroValue, hi, hz, hn', hz', newRow, f1]
  · exact new_view _ _ _ _ _ _ _ _ (Nat.le_refl _) (by rw [f2.1, List.length_map, flatten_length f3, f4, List.length_replicate]; exact Nat.le_refl _)

theorem build_does (R : Rel Γ s h a w ok lv) {t : TypeId} {it : TypeInfo} {fs : Array Field} {places : List (Nat × Nat)} {z : Value} (ht : Γ.P.underlying t = some (.struct fs)) (hit : Γ.P.info? t = some it) (hz : it.zero = some z)
    (hpl : fs.toList.mapM (fun f => (Γ.P.info? f.type).map fun i => (f.offset, i.size)) = some places) (h1 : ∀ u ∈ z.cells.toList, u.oneCell' = true)
    {parts : Array (Nat × Value)} {lparts : List (Nat × Nat × LA)} {ev : LA → A} {cs : List S} (hb : buildCells ev lparts (z.cells.toList.map fun v => .d (.v v)) = some cs) (hl : parts.toList.length = lparts.length)
    (hp : ∀ (j : Nat) (p : Nat × Value) (q : Nat × Nat × LA), parts.toList[j]? = some p → lparts[j]? = some q → places[p.1]? = some (q.1, q.2.1) ∧ RepS w ok lv (ev q.2.2).1 p.2) :
    Does Γ s h a w (Instr.build t parts) ⟨.agg cs, []⟩ := by
  have hz0 : Cells w ok lv z.cells (z.cells.toList.map fun v => S.d (.v v)) := by
    refine ⟨by simp, fun k y u hk hu => ?_⟩
    rw [List.getElem?_map] at hk
    have hu' : z.cells.toList[k]? = some u := by simpa using hu
    rw [hu'] at hk; simp at hk; subst hk
    exact ⟨.d _ _ (.v _), h1 _ (List.mem_of_getElem? hu')⟩
  obtain ⟨c', g1, g2⟩ := fill_build (place := (places.toArray[·]?)) parts.toList lparts z.cells _ cs hz0 hb hl (fun j p q a1 a2 => by
    obtain ⟨b1, b2⟩ := hp j p q a1 a2
    exact ⟨by simpa using b1, b2⟩)
  have hbuilt : Γ.P.built t parts.toList = some c' := by
    simp only [Program.built, hit, ht, hz, hpl]
    exact g1
  have := run_build (P := Γ.P) w t parts c' hbuilt
  refine Does.pure R this ?_
  have hl2 : c'.toList.length = cs.length := by simpa using g2.1
  have := RepS.agg (w := w) (ok := ok) (lv := lv) cs c'.toList hl2 (fun k u hk => ?_) (fun k y u hk hu => (g2.2 k y u hk (by simpa using hu)).1)
  · simpa using this
  · have hlt : k < cs.length := by rw [← hl2]; exact (List.getElem?_eq_some_iff.1 hk).1
    exact (g2.2 k _ u (List.getElem?_eq_getElem hlt) (by simpa using hk)).2

/-! ### structs compared -/

/-- The kinds of a struct's fields (whole numbers, texts, bools), one cell each, in order. -/
def flatKinds (P : Program) : Nat → List Field → Option (List Nat)
  | _, [] => some []
  | k, f :: fs => if f.name ≠ "_" ∧ f.offset = k then (match P.underlying f.type, flatKinds P (k + 1) fs with
      | some (.int _), some ks => some (0 :: ks)
      | some .string, some ks => some (1 :: ks)
      | some .bool, some ks => some (2 :: ks)
      | _, _ => none) else none

theorem part_run {P : Program} {w : World} {t : TypeId} {d : TypeDesc} (ht : P.underlying t = some d) (hd : isAggD d = false) {xs : Array Value} {k : Nat} {v : Value} (hk : xs[k]? = some v) : (part t xs k).run P w = .ok v w := by
  have hisagg : (isAgg t).run P w = .ok false w := by
    unfold isAgg
    rw [Sem.run_bind, run_underlying ht w]
    cases d <;> first | rfl | cases hd
  simp [part, hisagg, hk]

theorem eqFields_run {P : Program} {w : World} (d : Nat) : ∀ (fs : List Field) (k : Nat) (ks : List Nat) (xs ys : Array Value) (ls rs : List S) (b : Bool), flatKinds P k fs = some ks → eqCells ks ls rs = some b →
    (∀ (j : Nat) (y : S) (u : Value), ls[j]? = some y → xs[k + j]? = some u → RepS w ok lv y u) → (∀ (j : Nat) (y : S) (u : Value), rs[j]? = some y → ys[k + j]? = some u → RepS w ok lv y u) →
    k + ls.length ≤ xs.size → k + rs.length ≤ ys.size →
    (Op.eqFields (d + 1) xs ys fs).run P w = .ok b w
  | [], k, ks, xs, ys, ls, rs, b, hf, he, _, _, _, _ => by
    simp [flatKinds] at hf; subst hf
    cases ls <;> cases rs <;> simp [eqCells] at he
    subst he
    simp [Op.eqFields]
  | f :: fs, k, ks, xs, ys, ls, rs, b, hf, he, hx, hy, hxs, hys => by
    simp only [flatKinds] at hf
    split at hf
    · rename_i hcond
      obtain ⟨f1, f2⟩ := hcond
      -- what the field is
      have hks : ∃ c ks' td, ks = c :: ks' ∧ flatKinds P (k + 1) fs = some ks' ∧ P.underlying f.type = some td ∧ ((c = 0 ∧ ∃ q, td = .int q) ∨ (c = 1 ∧ td = .string) ∨ (c = 2 ∧ td = .bool)) := by
        split at hf <;> simp at hf
        · rename_i q ks' h1 h2; exact ⟨0, ks', _, hf.symm, h2, h1, .inl ⟨rfl, _, rfl⟩⟩
        · rename_i ks' h1 h2; exact ⟨1, ks', _, hf.symm, h2, h1, .inr (.inl ⟨rfl, rfl⟩)⟩
        · rename_i ks' h1 h2; exact ⟨2, ks', _, hf.symm, h2, h1, .inr (.inr ⟨rfl, rfl⟩)⟩
      obtain ⟨c, ks', td, rfl, f4, t1, htd⟩ := hks
      have t2 : isAggD td = false := by rcases htd with ⟨_, q, rfl⟩ | ⟨_, rfl⟩ | ⟨_, rfl⟩ <;> rfl
      -- the cells
      have hcs : ∃ pv qv ls' rs' b1 b2, ls = .d (.v pv) :: ls' ∧ rs = .d (.v qv) :: rs' ∧ eqCell c pv qv = some b1 ∧ eqCells ks' ls' rs' = some b2 ∧ b = (b1 && b2) := by
        rcases ls with _ | ⟨p, ls'⟩
        · simp [eqCells] at he
        · rcases rs with _ | ⟨q, rs'⟩
          · cases p <;> try (simp [eqCells] at he; done)
          · cases p <;> try (simp [eqCells] at he; done)
            rename_i p; cases p <;> try (simp [eqCells] at he; done)
            cases q <;> try (simp [eqCells] at he; done)
            rename_i pv q; cases q <;> try (simp [eqCells] at he; done)
            rename_i qv
            simp only [eqCells] at he
            split at he
            · rename_i p q e1 e2
              simp at he
              exact ⟨pv, qv, ls', rs', p, q, rfl, rfl, e1, e2, he.symm⟩
            · cases he
      obtain ⟨pv, qv, ls, rs, b1, b2, rfl, rfl, h1, h2, rfl⟩ := hcs
      simp only [List.length_cons] at hxs hys
      have hxk : xs[k]? = some xs[k] := Array.getElem?_eq_getElem (by omega)
      have hyk : ys[k]? = some ys[k] := Array.getElem?_eq_getElem (by omega)
      have rx := hx 0 _ xs[k] rfl hxk
      have ry := hy 0 _ ys[k] rfl hyk
      generalize xs[k] = xv at *
      generalize ys[k] = yv at *
      have ih := eqFields_run (P := P) d fs (k + 1) ks' xs ys ls rs b2 f4 h2
        (fun j y u h1 h2 => hx (j + 1) y u (by simpa using h1) (by rw [← h2]; congr 1; omega)) (fun j y u h1 h2 => hy (j + 1) y u (by simpa using h1) (by rw [← h2]; congr 1; omega)) (by omega) (by omega)
      have e1 := rx.dv
      have e2 := ry.dv
      subst e1 e2
      have r1 := part_run (w := w) t1 t2 hxk
      have r2 := part_run (w := w) t1 t2 hyk
      have r3 : (Op.equalIn (d + 1) f.type xv yv).run P w = .ok b1 w := by
        unfold eqCell at h1
        split at h1
        · split at h1
          · rename_i hk
            subst hk
            simp at h1; subst h1
            rcases htd with ⟨_, q, rfl⟩ | ⟨h, _⟩ | ⟨h, _⟩
            · exact run_equalIn_int w d _ _ _ _ _ t1
            · cases h
            · cases h
          · cases h1
        · simp at h1; subst h1
          rcases htd with ⟨h, _⟩ | ⟨_, rfl⟩ | ⟨h, _⟩
          · cases h
          · exact run_equalIn_string w d _ _ _ t1
          · cases h
        · simp at h1; subst h1
          rcases htd with ⟨h, _⟩ | ⟨h, _⟩ | ⟨_, rfl⟩
          · cases h
          · cases h
          · exact run_equalIn_bool' w d _ _ _ t1
        · cases h1
      simp only [Op.eqFields, f1, ne_eq, not_false_eq_true, if_true, Sem.run_bind, f2, r1, r2, r3, Result.andThen_ok]
      cases b1
      · simp
      · simpa using ih
    · cases hf

theorem eqs_does (R : Rel Γ s h a w ok lv) {op : BinOp} {neg : Bool} {t : TypeId} {fs : Array Field} {ks : List Nat} {x y : Operand} {xv yv : Value} {xs ys : S} (ht : Γ.P.underlying t = some (.struct fs)) (hk : flatKinds Γ.P 0 fs.toList = some ks)
    (hst : Γ.P.stoodInHeld t = false) (hgd : Γ.P.eqGuardType Γ.P.depth t = false) (hop : op = if neg then .neq else .eql) (hx : RepS w ok lv xs xv) (hy : RepS w ok lv ys yv) {u : U}
    (hW : eqsW neg ks xs ys (· = u)) : Does Γ s h a w (do eqGuard op t x y xv yv; Go.binOp op t xv yv) u := by
  unfold eqsW at hW
  split at hW
  · rename_i ls rs
    split at hW
    · rename_i b hb
      subst hW
      cases hx with
      | agg _ us hl ho hh =>
        cases hy with
        | agg _ vs hl' ho' hh' =>
          have hf : Γ.P.fieldsOf t = fs := by simp [Program.fieldsOf, ht]
          have he : (Op.equalIn 10000 t (.agg us.toArray) (.agg vs.toArray)).run Γ.P w = .ok b w := by
            have h1 := run_equalIn_struct (P := Γ.P) w 9999 t us.toArray vs.toArray (by rw [hf]; exact ht) hst
            rw [h1, hf]
            exact eqFields_run (ok := ok) (lv := lv) 9998 fs.toList 0 ks us.toArray vs.toArray ls rs b hk hb (fun j y u h1 h2 => hh j y u h1 (by simpa using h2)) (fun j y u h1 h2 => hh' j y u h1 (by simpa using h2)) (by simp [hl]) (by simp [hl'])
          have hg := run_eqGuard_agg (P := Γ.P) w op t x y us.toArray vs.toArray hgd
          cases neg
          · simp only [Bool.false_eq_true, if_false] at hop; subst hop
            refine Does.pure R (v := .bool b) ?_ (.d _ _ (.v _))
            rw [Sem.run_bind, hg, Result.andThen_ok, run_eql_struct, he]; rfl
          · simp only [if_true] at hop; subst hop
            refine Does.pure R (v := .bool !b) ?_ (.d _ _ (.v _))
            rw [Sem.run_bind, hg, Result.andThen_ok, run_neq_struct, he]; rfl
    · exact hW.elim
  · exact hW.elim
end
end Go.Eng
